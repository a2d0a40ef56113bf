/-
  Contracts of package store: words side by side, in a slice of the store's own.
-/
import Derived.Test.YtgfgmhfggbfeeaaRows
import Derived.Test.YtgfgmhfggbfeeaaExt
import Derived.WalkKit
import Derived.StillTailTactics
import Derived.Laws.CopyOwn
import Derived.Lib.Hide
namespace Go.Proofs.Ytgfgmhfggbfeeaa.Store
open Go.RowKit Go.Proofs.Ytgfgmhfggbfeeaa.Plain
set_option linter.unusedVariables false

theorem info28 : (Try.prog.info? 28).map (fun i => (i.zero, i.size, i.bytes)) = some (some (.int .u32 0), 1, 4) := by kernel_rfl
theorem make_run (n : Nat) (hn : n ≤ 65536) (w : World) : (Instr.makeSlice 60 (.int .i64 (n : Int)) (.int .i64 (n : Int))).run Try.prog w = .ok (.slice (some ⟨w.heap.size, 0, none⟩) n n) (w.alloc (.cells (Array.replicate n (.int .u32 0)) 28)) := by
  obtain ⟨i0, hi, hz0, hz1, hz2⟩ := info_parts info28
  have h := run_make (P := Try.prog) w 60 28 i0 (.int .u32 0) Try.underlying60 hi hz0 .i64 .i64 (n : Int) (n : Int) (by omega) (by omega) (by rw [hz2]; omega) (by omega)
  rw [h]
  have e : madeCells (Value.cells (.int .u32 0)) ((n : Int).toNat * i0.size) = Array.replicate n (.int .u32 0) := by
    rw [hz1, Nat.mul_one, Int.toNat_natCast]
    apply Array.ext
    · simp [madeCells]
    · intro j h1 h2
      simp [madeCells, Value.cells, Nat.mod_one]
  rw [e, Int.toNat_natCast]
set_option maxHeartbeats 1000000 in
theorem new (v M : Int) (n : Nat) (w : World) (hM : (if 65536 < v then 65536 else v) = M) (hn : (if 0 < M then M else 0) = (n : Int)) (hn2 : n ≤ 65536) :
    Calls Try.prog 41 #[.int .i64 v] w fun e w' => e = .returned (.pointer (some ⟨w.heap.size + 1, 0, none⟩)) ∧ w' = (w.alloc (.cells (Array.replicate n (.int .u32 0)) 28)).alloc (.cells #[.slice (some ⟨w.heap.size, 0, none⟩) n n] 73) := by
  have hmk := make_run n hn2
  go_enter Try.func41, Try.ntmps41
  go_wp2
  go_ret
  exact ⟨rfl, rfl⟩
theorem len (w : World) (g n : Nat) (a : Option Addr) (c : w.cell? ⟨g, 0, none⟩ = some (.slice a n n)) :
    Calls Try.prog 46 #[.pointer (some ⟨g, 0, none⟩)] w fun e w' => e = .returned (.int .i64 n) ∧ w = w' := by
  go_enter Try.func46, Try.ntmps46
  go_wp2
  go_ret
  exact ⟨rfl, rfl⟩
theorem get_in (w : World) (g b n i : Nat) (x : Int) (hi : i < n) (hn : n ≤ 65536) (c : w.cell? ⟨g, 0, none⟩ = some (.slice (some ⟨b, 0, none⟩) n n)) (cx : w.cell? ⟨b, i, none⟩ = some (.int .u32 x)) :
    Calls Try.prog 45 #[.pointer (some ⟨g, 0, none⟩), .int .i64 i] w fun e w' => e = .returned (.int .u32 x) ∧ w = w' := by
  have d1 : decide (n ≤ i) = false := by simp; omega
  go_enter Try.func45, Try.ntmps45
  go_wp2
  go_ret
  exact ⟨rfl, rfl⟩
theorem get_out (w : World) (g n : Nat) (at_ : Int) (a : Option Addr) (hi : at_ < 0 ∨ 0 ≤ at_ ∧ (n : Int) ≤ at_) (c : w.cell? ⟨g, 0, none⟩ = some (.slice a n n)) :
    Calls Try.prog 45 #[.pointer (some ⟨g, 0, none⟩), .int .i64 at_] w fun e w' => e = .returned (.int .u32 0) ∧ w = w' := by
  rcases hi with hi | ⟨h0, hi⟩
  · go_enter Try.func45, Try.ntmps45
    go_wp2
    go_ret
    exact ⟨rfl, rfl⟩
  · have d0 : decide (at_ < 0) = false := by simp; omega
    have d1 : decide ((n : Int) ≤ at_) = true := by simpa using hi
    go_enter Try.func45, Try.ntmps45
    go_wp2
    go_ret
    exact ⟨rfl, rfl⟩
theorem put_in (w : World) (g b n i : Nat) (x v : Int) (hi : i < n) (hn : n ≤ 65536) (c : w.cell? ⟨g, 0, none⟩ = some (.slice (some ⟨b, 0, none⟩) n n)) (cx : w.cell? ⟨b, i, none⟩ = some (.int .u32 x)) (fz : w.frozen? ⟨b, i, none⟩ = false) :
    Calls Try.prog 43 #[.pointer (some ⟨g, 0, none⟩), .int .i64 i, .int .u32 v] w fun e w' => e = .returned (.bool true) ∧ w' = w.setCell ⟨b, i, none⟩ (.int .u32 v) := by
  have d1 : decide (n ≤ i) = false := by simp; omega
  go_enter Try.func43, Try.ntmps43
  go_wp2
  go_ret
  exact ⟨rfl, rfl⟩
theorem put_out (w : World) (g n : Nat) (at_ v : Int) (a : Option Addr) (hi : at_ < 0 ∨ 0 ≤ at_ ∧ (n : Int) ≤ at_) (c : w.cell? ⟨g, 0, none⟩ = some (.slice a n n)) :
    Calls Try.prog 43 #[.pointer (some ⟨g, 0, none⟩), .int .i64 at_, .int .u32 v] w fun e w' => e = .returned (.bool false) ∧ w = w' := by
  rcases hi with hi | ⟨h0, hi⟩
  · go_enter Try.func43, Try.ntmps43
    go_wp2
    go_ret
    exact ⟨rfl, rfl⟩
  · have d0 : decide (at_ < 0) = false := by simp; omega
    have d1 : decide ((n : Int) ≤ at_) = true := by simpa using hi
    go_enter Try.func43, Try.ntmps43
    go_wp2
    go_ret
    exact ⟨rfl, rfl⟩
theorem move_no (w : World) (g n : Nat) (f t m : Int) (a : Option Addr) (hn : n ≤ 65536) (c : w.cell? ⟨g, 0, none⟩ = some (.slice a n n))
    (h : m < 0 ∨ 0 ≤ m ∧ (n : Int) < m ∨ (0 ≤ m ∧ m ≤ n) ∧ (f < 0 ∨ 0 ≤ f ∧ (t < 0 ∨ 0 ≤ t ∧ ((n : Int) - m < f ∨ f ≤ (n : Int) - m ∧ (n : Int) - m < t)))) :
    Calls Try.prog 44 #[.pointer (some ⟨g, 0, none⟩), .int .i64 f, .int .i64 t, .int .i64 m] w fun e w' => e = .returned (.bool false) ∧ w = w' := by
  rcases h with h | ⟨h0, h⟩ | ⟨⟨h0, h1⟩, h | ⟨h2, h | ⟨h3, h | ⟨h4, h⟩⟩⟩⟩
  · go_enter Try.func44, Try.ntmps44
    go_wp2
    go_ret
    exact ⟨rfl, rfl⟩
  · have d0 : decide (m < 0) = false := by simp; omega
    have d1 : decide ((n : Int) < m) = true := by simpa using h
    go_enter Try.func44, Try.ntmps44
    go_wp2
    go_ret
    exact ⟨rfl, rfl⟩
  · have d0 : decide (m < 0) = false := by simp; omega
    have d1 : decide ((n : Int) < m) = false := by simp; omega
    have d2 : decide (f < 0) = true := by simpa using h
    go_enter Try.func44, Try.ntmps44
    go_wp2
    go_ret
    exact ⟨rfl, rfl⟩
  · have d0 : decide (m < 0) = false := by simp; omega
    have d1 : decide ((n : Int) < m) = false := by simp; omega
    have d2 : decide (f < 0) = false := by simp; omega
    have d3 : decide (t < 0) = true := by simpa using h
    go_enter Try.func44, Try.ntmps44
    go_wp2
    go_ret
    exact ⟨rfl, rfl⟩
  · have d0 : decide (m < 0) = false := by simp; omega
    have d1 : decide ((n : Int) < m) = false := by simp; omega
    have d2 : decide (f < 0) = false := by simp; omega
    have d3 : decide (t < 0) = false := by simp; omega
    have d4 : decide ((n : Int) - m < f) = true := by simpa using h
    go_enter Try.func44, Try.ntmps44
    go_wp2
    go_ret
    exact ⟨rfl, rfl⟩
  · have d0 : decide (m < 0) = false := by simp; omega
    have d1 : decide ((n : Int) < m) = false := by simp; omega
    have d2 : decide (f < 0) = false := by simp; omega
    have d3 : decide (t < 0) = false := by simp; omega
    have d4 : decide ((n : Int) - m < f) = false := by simp; omega
    have d5 : decide ((n : Int) - m < t) = true := by simpa using h
    go_enter Try.func44, Try.ntmps44
    go_wp2
    go_ret
    exact ⟨rfl, rfl⟩
theorem keep_setRow (w : World) (g : Nat) (cs : Array Value) : Keep (· = g) w (w.setRow g cs) :=
  ⟨rfl, rfl, rfl, by simp [World.setRow], fun k hk hn => setRow_other w g k cs hn⟩
theorem wpList_copy_keep {P : Program} {w : World} {ops : Array Oper} {rest : List Oper} {o : Oper} {a : Act} {Q : Exit → Act → World → Prop} (hgd : o.guard = none) (d s : Operand) (dT sT : TypeId)
    (ho : o.op = .call { callee := .builtin .copy, args := #[d, s], argTypes := #[dT, sT] }) (elem : TypeId) (hu : P.underlying dT = some (.slice elem)) (hsz : (P.info? elem).map (·.size) = some 1)
    (dp sp : Option Addr) (dLen dCap sLen sCap : Nat) (hd : a.eval d = .slice dp dLen dCap) (hs : a.eval s = .slice sp sLen sCap)
    (g off : Nat) (cur : List Value) (t : TypeId) (hg : w.heap[g]? = some (.cells cur.toArray t (0, 0))) (cs : List Value) (hn : cs.length = Nat.min sLen dLen)
    (hpos : 0 < cs.length → dp = some ⟨g, off, none⟩ ∧ ∃ ad, sp = some ad ∧ ∀ j v, cs[j]? = some v → w.cell? (ad.add j) = some v)
    (hfit : off + cs.length ≤ cur.length) (h1 : ∀ v ∈ cs, v.oneCell' = true)
    (h : ∀ w', Blk w' g t (splice cur off cs).toArray → Keep (· = g) w w' → wpList P ops Q rest (a.put o.dst (goInt cs.length)) w') :
    wpList P ops Q (o :: rest) a w := by
  by_cases h0 : cs.length = 0
  · obtain rfl : cs = [] := List.eq_nil_of_length_eq_zero h0
    refine wpList_copy_nothing hgd d s dT sT ho elem hu hsz dp sp dLen dCap sLen sCap hd hs (by simpa using hn.symm) ?_
    exact h w (show _ = _ by simpa [splice] using hg) (Keep.refl _ _)
  · obtain ⟨rfl, ad, rfl, hsrc⟩ := hpos (by omega)
    refine wpList_copy_own hgd d s dT sT ho elem hu hsz g off dLen dCap ad sLen sCap hd hs cur.toArray t hg cs hn hsrc (by simpa using hfit) h1 ?_
    refine h _ ?_ (keep_setRow w g _)
    unfold Blk
    simpa [splice] using setRow_heap w g _ _ t _ hg
set_option maxHeartbeats 2000000 in
theorem move_yes (w : World) (g b n f t m : Nat) (L : List Value) (hL : L.length = n) (hn : n ≤ 65536) (hf : f + m ≤ n) (ht : t + m ≤ n) (B1 : Blk w g 73 #[.slice (some ⟨b, 0, none⟩) n n]) (B2 : Blk w b 28 L.toArray) (h1 : ∀ v ∈ L, v.oneCell' = true) :
    Calls Try.prog 44 #[.pointer (some ⟨g, 0, none⟩), .int .i64 f, .int .i64 t, .int .i64 m] w fun e w' => e = .returned (.bool true) ∧ Blk w' b 28 (splice L t ((L.drop f).take m)).toArray ∧ Keep (· = b) w w' := by
  obtain ⟨c1, f1, z1⟩ := B1.rules
  have d0 : decide ((m : Int) < 0) = false := by simp
  have d1 : decide ((n : Int) < (m : Int)) = false := by simp; omega
  have d1' : decide (n < m) = false := by simp; omega
  have d2 : decide ((f : Int) < 0) = false := by simp
  have d3 : decide ((t : Int) < 0) = false := by simp
  have d4 : decide ((n : Int) - (m : Int) < (f : Int)) = false := by simp; omega
  have d5 : decide ((n : Int) - (m : Int) < (t : Int)) = false := by simp; omega
  have e1 : IntKind.i64.wrap ((t : Int) + (m : Int)) = (t : Int) + (m : Int) := IntWalk.i64_in _ (by omega)
  have e2 : IntKind.i64.wrap ((f : Int) + (m : Int)) = (f : Int) + (m : Int) := IntWalk.i64_in _ (by omega)
  have g1 : (0 : Int) ≤ (t : Int) := by omega
  have g2 : (t : Int) ≤ (t : Int) + (m : Int) := by omega
  have g3 : (t : Int) + (m : Int) ≤ (n : Int) := by omega
  have g4 : (0 : Int) ≤ (f : Int) := by omega
  have g5 : (f : Int) ≤ (f : Int) + (m : Int) := by omega
  have g6 : (f : Int) + (m : Int) ≤ (n : Int) := by omega
  go_enter Try.func44, Try.ntmps44
  go_wp2
  refine wp_region_still_tail 18 (by kernel_rfl) (by kernel_rfl) ?_
  simp only [List.take_succ_cons, List.take_zero, List.drop_succ_cons, List.drop_zero]
  repeat still_step
  refine wpStill_nil ?_
  have hlen : ((L.drop f).take m).length = m := by simp; omega
  refine wpList_copy_keep rfl (.tmp 58) (.tmp 67) 60 60 rfl 28 Try.underlying60 (by kernel_rfl) (if n = t then some ⟨b, 0, none⟩ else some ⟨b, t, none⟩) (if n = f then some ⟨b, 0, none⟩ else some ⟨b, f, none⟩) (((t : Int) + (m : Int)).toNat - t) (n - t) (((f : Int) + (m : Int)).toNat - f) (n - f) rfl rfl b t L 28 B2 ((L.drop f).take m) ?_ ?_ ?_ ?_ ?_
  · rw [hlen]
    have a1 : ((f : Int) + (m : Int)).toNat - f = m := by omega
    have a2 : ((t : Int) + (m : Int)).toNat - t = m := by omega
    rw [a1, a2]; exact (Nat.min_self m).symm
  · intro h0
    rw [hlen] at h0
    rw [if_neg (by omega), if_neg (by omega)]
    refine ⟨rfl, _, rfl, fun j v hv => ?_⟩
    have hj : j < m := by
      rcases Nat.lt_or_ge j m with hh | hh
      · exact hh
      · rw [List.getElem?_eq_none (by omega)] at hv; cases hv
    rw [List.getElem?_take_of_lt hj, List.getElem?_drop] at hv
    have ea : (⟨b, f, none⟩ : Addr).add j = ⟨b, f + j, none⟩ := by unfold Addr.add; split <;> simp_all
    rw [ea]
    exact (B2.cell (f + j)).trans (by simpa using hv)
  · rw [hlen, hL]; omega
  · intro v hv
    exact h1 v (List.mem_of_mem_drop (List.mem_of_mem_take hv))
  intro w1 B3 k3
  have H3 := Lib.hid B3
  have K3 := Lib.hid (show Keep (· = b) w w1 from ⟨k3.os, k3.tape, k3.output, k3.size, k3.block⟩)
  clear B3 k3
  generalize (if n = t then some (⟨b, 0, none⟩ : Addr) else some ⟨b, t, none⟩) = q1
  generalize (if n = f then some (⟨b, 0, none⟩ : Addr) else some ⟨b, f, none⟩) = q2
  go_wp2
  go_ret
  exact ⟨rfl, H3.out, K3.out⟩

/-! ### what a store is -/
structure Sto (w : World) (g b : Nat) (L : List Int) : Prop where
  head : Blk w g 73 #[.slice (some ⟨b, 0, none⟩) L.length L.length]
  row : Blk w b 28 (L.map (Value.int .u32)).toArray
  le : L.length ≤ 65536
section
variable {w w' : World} {g b : Nat} {L : List Int}
theorem Sto.ne (h : Sto w g b L) : g ≠ b := h.head.ne h.row (by decide)
theorem Sto.keep {S : Nat → Prop} (h : Sto w g b L) (k : Keep S w w') (h1 : ¬ S g) (h2 : ¬ S b) : Sto w' g b L := ⟨h.head.keep k h1, h.row.keep k h2, h.le⟩
theorem Sto.ext (h : Sto w g b L) (k : Ext w w') : Sto w' g b L := h.keep (.of_ext k (fun _ => False)) (fun h => h) (fun h => h)
theorem row_at (L : List Int) (i : Nat) (hi : i < L.length) : (L.map (Value.int .u32)).toArray[i]? = some (.int .u32 (L.getD i 0)) := by
  simp [List.getD, hi]
theorem new_sto (v M : Int) (n : Nat) (w : World) (hM : (if 65536 < v then 65536 else v) = M) (hn : (if 0 < M then M else 0) = (n : Int)) (hn2 : n ≤ 65536) :
    Calls Try.prog 41 #[.int .i64 v] w fun e w' => e = .returned (.pointer (some ⟨w.heap.size + 1, 0, none⟩)) ∧ Sto w' (w.heap.size + 1) w.heap.size (List.replicate n 0) ∧ Ext w w' := by
  refine (new v M n w hM hn hn2).mono ?_
  rintro e w' ⟨rfl, rfl⟩
  have e1 : (Array.replicate n (Value.int .u32 0)) = ((List.replicate n (0 : Int)).map (Value.int .u32)).toArray := by simp
  refine ⟨rfl, ⟨?_, ?_, by simpa using hn2⟩, ((Ext.refl _).alloc _).alloc _⟩
  · have h := Blk.new (w.alloc (.cells (Array.replicate n (.int .u32 0)) 28)) 73 #[.slice (some ⟨w.heap.size, 0, none⟩) n n]
    rw [World.size_alloc] at h
    simpa using h
  · rw [← e1]; exact (Blk.new _ _ _).alloc _
theorem len_sto (h : Sto w g b L) : Calls Try.prog 46 #[.pointer (some ⟨g, 0, none⟩)] w fun e w' => e = .returned (.int .i64 L.length) ∧ w = w' :=
  len w g L.length _ (h.head.cell 0)
def getL (L : List Int) (i : Int) : Int := if 0 ≤ i ∧ i < L.length then L.getD i.toNat 0 else 0
theorem get_sto (h : Sto w g b L) (i : Int) : Calls Try.prog 45 #[.pointer (some ⟨g, 0, none⟩), .int .i64 i] w fun e w' => e = .returned (.int .u32 (getL L i)) ∧ w = w' := by
  unfold getL
  by_cases h1 : 0 ≤ i ∧ i < L.length
  · rw [if_pos h1]
    obtain ⟨k, rfl⟩ := Int.eq_ofNat_of_zero_le h1.1
    rw [Int.toNat_natCast]
    exact get_in w g b L.length k _ (by omega) h.le (h.head.cell 0) ((h.row.cell k).trans (row_at L k (by omega)))
  · rw [if_neg h1]
    exact get_out w g L.length i _ (by omega) (h.head.cell 0)
theorem set_row (L : List Int) (i : Nat) (v : Int) : ((L.map (Value.int .u32)).toArray).setIfInBounds i (.int .u32 v) = ((L.set i v).map (Value.int .u32)).toArray := by
  simp [List.map_set]
theorem put_y (h : Sto w g b L) (i : Nat) (hi : i < L.length) (v : Int) :
    Calls Try.prog 43 #[.pointer (some ⟨g, 0, none⟩), .int .i64 i, .int .u32 v] w fun e w' => e = .returned (.bool true) ∧ Sto w' g b (L.set i v) ∧ Keep (· = b) w w' := by
  refine (put_in w g b L.length i _ v hi h.le (h.head.cell 0) ((h.row.cell i).trans (row_at L i hi)) (h.row.frozen i)).mono ?_
  rintro e w' ⟨rfl, rfl⟩
  refine ⟨rfl, ⟨?_, ?_, by simpa using h.le⟩, (Keep.refl (· = b) w).setCell (p := ⟨b, i, none⟩) rfl _⟩
  · have := h.head.far (p := ⟨b, i, none⟩) h.ne (.int .u32 v)
    simpa using this
  · rw [← set_row]; exact h.row.set i _
theorem put_n (h : Sto w g b L) (i v : Int) (hi : i < 0 ∨ 0 ≤ i ∧ (L.length : Int) ≤ i) :
    Calls Try.prog 43 #[.pointer (some ⟨g, 0, none⟩), .int .i64 i, .int .u32 v] w fun e w' => e = .returned (.bool false) ∧ w = w' :=
  put_out w g L.length i v _ hi (h.head.cell 0)
theorem move_n (h : Sto w g b L) (f t m : Int) (hm : m < 0 ∨ 0 ≤ m ∧ (L.length : Int) < m ∨ (0 ≤ m ∧ m ≤ L.length) ∧ (f < 0 ∨ 0 ≤ f ∧ (t < 0 ∨ 0 ≤ t ∧ ((L.length : Int) - m < f ∨ f ≤ (L.length : Int) - m ∧ (L.length : Int) - m < t)))) :
    Calls Try.prog 44 #[.pointer (some ⟨g, 0, none⟩), .int .i64 f, .int .i64 t, .int .i64 m] w fun e w' => e = .returned (.bool false) ∧ w = w' :=
  move_no w g L.length f t m _ h.le (h.head.cell 0) hm
theorem splice_map (L : List Int) (t f m : Nat) : splice (L.map (Value.int .u32)) t (((L.map (Value.int .u32)).drop f).take m) = (splice L t ((L.drop f).take m)).map (Value.int .u32) := by
  simp [splice, List.map_take, List.map_drop]
theorem move_y (h : Sto w g b L) (f t m : Nat) (hf : f + m ≤ L.length) (ht : t + m ≤ L.length) :
    Calls Try.prog 44 #[.pointer (some ⟨g, 0, none⟩), .int .i64 f, .int .i64 t, .int .i64 m] w fun e w' => e = .returned (.bool true) ∧ Sto w' g b (splice L t ((L.drop f).take m)) ∧ Keep (· = b) w w' := by
  refine (move_yes w g b L.length f t m (L.map (Value.int .u32)) (by simp) h.le hf ht h.head h.row (by simp; intros; rfl)).mono ?_
  rintro e w' ⟨rfl, B3, k3⟩
  have hl : (splice L t ((L.drop f).take m)).length = L.length := length_splice L t _ (by simp; omega)
  refine ⟨rfl, ⟨?_, ?_, by rw [hl]; exact h.le⟩, k3⟩
  · rw [hl]; exact h.head.keep k3 h.ne
  · rw [splice_map] at B3; exact B3
end
end Go.Proofs.Ytgfgmhfggbfeeaa.Store
