/-
  Clone, as one text (a claim has at most 60 files).
-/
import Derived.Test.YtjpalcejmloocaaGreatCt08
import Derived.Maps.AppendAt
namespace Go.Proofs.YtjpalcejmloocaaGreat.World
open Go.RowKit Go.Proofs.YtjpalcejmloocaaGreat.Plain
set_option linter.unusedVariables false

/-- the cells of n elements, one behind the other -/
def flat (n sz : Nat) (c : Nat → Nat → Value) : List Value := (List.range (n * sz)).map fun q => c (q / sz) (q % sz)
theorem flat_len (n sz : Nat) (c : Nat → Nat → Value) : (flat n sz c).length = n * sz := by unfold flat; simp
theorem flat_at (n sz : Nat) (c : Nat → Nat → Value) (i j : Nat) (hi : i < n) (hj : j < sz) : (flat n sz c)[i * sz + j]? = some (c i j) := by
  have hq : i * sz + j < n * sz := by
    have : i * sz + sz ≤ n * sz := by rw [← Nat.succ_mul]; exact Nat.mul_le_mul_right _ hi
    omega
  unfold flat
  rw [List.getElem?_map, List.getElem?_range hq]
  show some (c ((i * sz + j) / sz) ((i * sz + j) % sz)) = _
  rw [Nat.mul_comm, Nat.mul_add_div (by omega), Nat.div_eq_of_lt hj, Nat.mul_add_mod, Nat.mod_eq_of_lt hj, Nat.add_zero]
theorem flat_some {n sz : Nat} {c : Nat → Nat → Value} {q : Nat} {u : Value} (h : (flat n sz c)[q]? = some u) : 0 < sz ∧ q / sz < n ∧ u = c (q / sz) (q % sz) := by
  unfold flat at h
  rw [List.getElem?_map] at h
  have hq : q < n * sz := by
    rcases Nat.lt_or_ge q (n * sz) with h1 | h1
    · exact h1
    · rw [List.getElem?_eq_none (by simpa using h1)] at h; cases h
  rw [List.getElem?_range hq] at h
  have hs : 0 < sz := by
    rcases Nat.eq_zero_or_pos sz with h1 | h1
    · subst h1; omega
    · exact h1
  refine ⟨hs, Nat.div_lt_of_lt_mul (by rw [Nat.mul_comm]; exact hq), ?_⟩
  injection h with h; exact h.symm
/-- a slice of the call's own -/
def Own (w : World) (base : Nat) (e : TypeId) (v : Value) (n sz : Nat) (c : Nat → Nat → Value) : Prop := w.ownsRow base e sz v n (flat n sz c)
theorem Row.news {w : World} {b off n sz cap : Nat} {c : Nat → Nat → Value} (h : Row w (.slice (some ⟨b, off, none⟩) n cap) n sz c) : ∀ q u, (flat n sz c)[q]? = some u → w.cell? ((⟨b, off, none⟩ : Addr).add q) = some u := by
  intro q u hq
  obtain ⟨hs, hi, rfl⟩ := flat_some hq
  obtain ⟨b', off', e, _, hc⟩ := h.at_ (q / sz) hi
  injection e with e
  injection e with e1 e2
  subst e1 e2
  have := hc (q % sz) (Nat.mod_lt _ hs)
  rw [Addr.add_lit, ← this]
  congr 2
  have := Nat.div_add_mod q sz
  rw [Nat.mul_comm] at this
  omega
theorem Own.row {w : World} {base : Nat} {e : TypeId} {v : Value} {n sz : Nat} {c : Nat → Nat → Value} (h : Own w base e v n sz c) : Row w v n sz c := by
  have h : w.ownsRow base e sz v n (flat n sz c) := h
  rcases h.2 with ⟨rfl, h0⟩ | ⟨g, cap, cur, rfl, hb, hg, hn, hcap, hsz, ht⟩
  · subst h0
    exact ⟨none, 0, rfl, Nat.le_refl _, by omega, fun i hi => by omega⟩
  · have hg' : Blk w g e cur := hg
    unfold maxLen at hcap
    refine ⟨_, _, rfl, hn, by omega, fun i hi => ⟨g, 0, rfl, hg'.lt, fun j hj => ?_⟩⟩
    rw [hg'.cell, Nat.zero_add, ← Array.getElem?_toList]
    have e1 := flat_at n sz c i j hi hj
    have hlt : i * sz + j < n * sz := by
      have : i * sz + sz ≤ n * sz := by rw [← Nat.succ_mul]; exact Nat.mul_le_mul_right _ hi
      omega
    rw [← ht, List.getElem?_take_of_lt hlt] at e1
    exact e1
theorem Own.ext {w w' : World} {base : Nat} {e : TypeId} {v : Value} {n sz : Nat} {c : Nat → Nat → Value} (h : Own w base e v n sz c) (x : Ext w w') : Own w' base e v n sz c := by
  have h : w.ownsRow base e sz v n (flat n sz c) := h
  refine ⟨h.1, ?_⟩
  rcases h.2 with hn | ⟨g, cap, cur, rfl, hb, hg, rest⟩
  · exact .inl hn
  · exact .inr ⟨g, cap, cur, rfl, hb, Blk.ext (show Blk w g e cur from hg) x, rest⟩
def ClonePost (w : World) (e : TypeId) (n sz : Nat) (c : Nat → Nat → Value) (en : Ending) (w' : World) : Prop := ∃ v, en = .returned v ∧ Own w' w.heap.size e v n sz c ∧ Ext w w'
theorem grown_ext {w w3 : World} {ob : Obj} (g : (w.alloc ob).grownBy w3 (some w.heap.size)) : Ext w w3 := by
  have hs : (w.alloc ob).heap.size = w.heap.size + 1 := Array.size_push ..
  exact Ext.of_below ⟨g.os, g.tape, g.output, by have := g.size; omega, fun k hk => (g.block k (by omega) (by simp; omega)).trans (Below.heap_alloc w ob k hk)⟩
theorem infoV : (Tryz.prog.info? 38).map (fun i => (i.zero, i.size, i.bytes)) = some (some (.agg #[.bool false, .int .i64 0]), 2, 16) := by kernel_rfl
set_option maxRecDepth 100000 in
set_option maxHeartbeats 2000000 in
theorem cloneV {w : World} {v : Value} {n : Nat} {c : Nat → Nat → Value} (h : Row w v n 2 c) (hn : n ≤ 1000000) (h1 : ∀ i j, (c i j).oneCell' = true) :
    Calls Tryz.prog 35 #[v] w (ClonePost w 38 n 2 c) := by
  obtain ⟨A, cap, rfl, hc1, hc2⟩ := h.form
  have HR := Lib.hid h
  clear h
  cases A with
  | none =>
    have hn0 : n = 0 := by
      rcases Nat.eq_zero_or_pos n with h0 | h0
      · exact h0
      · obtain ⟨b, off, e, _⟩ := Row.at_ HR.out 0 h0
        cases e
    subst hn0
    have hne : ∀ W c, (binOp .eql 40 (.slice none 0 c) (.slice none 0 0)).run Tryz.prog W = .ok (.bool true) W := fun W c => Lib.run_eql_slice_nil W _ _ none 0 c 0 0 Tryz.underlying40
    go_enter Tryz.func35, Tryz.ntmps35
    go_wp2
    go_ret
    exact ⟨_, rfl, ⟨by rw [flat_len], .inl ⟨rfl, rfl⟩⟩, Ext.refl _⟩
  | some a =>
    have hne : ∀ W n c, (binOp .eql 40 (.slice (some a) n c) (.slice none 0 0)).run Tryz.prog W = .ok (.bool false) W := fun W n c => Lib.run_eql_slice_nil W _ _ _ n c 0 0 Tryz.underlying40
    obtain ⟨i0, hi0, hz0, hz1, hz2⟩ := info_parts infoV
    have NW : Hid (∀ q u, (flat n 2 c)[q]? = some u → (w.alloc (.cells #[] 38)).cell? (a.add q) = some u) := Lib.hid (by
      intro q u hq
      have hpos := flat_some hq
      obtain ⟨b, off, e, hb, _⟩ := Row.at_ HR.out 0 (by have := hpos.2.1; omega)
      injection e with e
      subst e
      have HR2 := (HR.out.ext ((Ext.refl _).alloc (.cells #[] 38)))
      exact HR2.news q u hq)
    go_enter Tryz.func35, Tryz.ntmps35
    go_wp2_with (at_builtin; refine wpList_append_own _ rfl _ _ 40 rfl w.heap.size 38 i0 (.agg #[.bool false, .int .i64 0]) 2 16 Tryz.underlying40 hi0 hz0 hz1 hz2 rfl (by decide) _ 0 [] rfl ?c0 a n cap (flat n 2 c) rfl ?c1 ?c2 ?c3 ?c4 ?c5 ?c6 ?_)
    case c0 => exact ⟨rfl, .inr ⟨w.heap.size, 0, #[], rfl, Nat.le_refl _, Blk.new _ _ _, Nat.le_refl _, Nat.zero_le _, rfl, rfl⟩⟩
    case c1 => exact flat_len _ _ _
    case c2 => exact NW.out
    case c3 =>
      intro u hu
      obtain ⟨q, hq, e⟩ := List.getElem_of_mem hu
      obtain ⟨_, _, rfl⟩ := flat_some (by rw [List.getElem?_eq_getElem hq, e])
      exact h1 _ _
    case c4 => unfold maxLen; omega
    case c5 => omega
    case c6 => exact Nat.le_of_lt (Blk.new w 38 #[]).lt
    intro v' w3 o3 g3 _
    have X3 := Lib.hid (grown_ext g3)
    have O3 := Lib.hid o3
    clear o3 g3
    go_wp2
    go_ret
    refine ⟨v', rfl, ?_, X3.out⟩
    have this := O3.out
    first
      | exact this
      | (rw [Nat.zero_add, List.nil_append] at this; exact this)
theorem infoI : (Tryz.prog.info? 3).map (fun i => (i.zero, i.size, i.bytes)) = some (some (.int .i64 0), 1, 8) := by kernel_rfl
set_option maxRecDepth 100000 in
set_option maxHeartbeats 2000000 in
theorem cloneI {w : World} {v : Value} {n : Nat} {c : Nat → Nat → Value} (h : Row w v n 1 c) (hn : n ≤ 1000000) (h1 : ∀ i j, (c i j).oneCell' = true) :
    Calls Tryz.prog 38 #[v] w (ClonePost w 3 n 1 c) := by
  obtain ⟨A, cap, rfl, hc1, hc2⟩ := h.form
  have HR := Lib.hid h
  clear h
  cases A with
  | none =>
    have hn0 : n = 0 := by
      rcases Nat.eq_zero_or_pos n with h0 | h0
      · exact h0
      · obtain ⟨b, off, e, _⟩ := Row.at_ HR.out 0 h0
        cases e
    subst hn0
    have hne : ∀ W c, (binOp .eql 25 (.slice none 0 c) (.slice none 0 0)).run Tryz.prog W = .ok (.bool true) W := fun W c => Lib.run_eql_slice_nil W _ _ none 0 c 0 0 Tryz.underlying25
    go_enter Tryz.func38, Tryz.ntmps38
    go_wp2
    go_ret
    exact ⟨_, rfl, ⟨by rw [flat_len], .inl ⟨rfl, rfl⟩⟩, Ext.refl _⟩
  | some a =>
    have hne : ∀ W n c, (binOp .eql 25 (.slice (some a) n c) (.slice none 0 0)).run Tryz.prog W = .ok (.bool false) W := fun W n c => Lib.run_eql_slice_nil W _ _ _ n c 0 0 Tryz.underlying25
    obtain ⟨i0, hi0, hz0, hz1, hz2⟩ := info_parts infoI
    have NW : Hid (∀ q u, (flat n 1 c)[q]? = some u → (w.alloc (.cells #[] 3)).cell? (a.add q) = some u) := Lib.hid (by
      intro q u hq
      have hpos := flat_some hq
      obtain ⟨b, off, e, hb, _⟩ := Row.at_ HR.out 0 (by have := hpos.2.1; omega)
      injection e with e
      subst e
      have HR2 := (HR.out.ext ((Ext.refl _).alloc (.cells #[] 3)))
      exact HR2.news q u hq)
    go_enter Tryz.func38, Tryz.ntmps38
    go_wp2_with (at_builtin; refine wpList_append_own _ rfl _ _ 25 rfl w.heap.size 3 i0 (.int .i64 0) 1 8 Tryz.underlying25 hi0 hz0 hz1 hz2 rfl (by decide) _ 0 [] rfl ?c0 a n cap (flat n 1 c) rfl ?c1 ?c2 ?c3 ?c4 ?c5 ?c6 ?_)
    case c0 => exact ⟨rfl, .inr ⟨w.heap.size, 0, #[], rfl, Nat.le_refl _, Blk.new _ _ _, Nat.le_refl _, Nat.zero_le _, rfl, rfl⟩⟩
    case c1 => exact flat_len _ _ _
    case c2 => exact NW.out
    case c3 =>
      intro u hu
      obtain ⟨q, hq, e⟩ := List.getElem_of_mem hu
      obtain ⟨_, _, rfl⟩ := flat_some (by rw [List.getElem?_eq_getElem hq, e])
      exact h1 _ _
    case c4 => unfold maxLen; omega
    case c5 => omega
    case c6 => exact Nat.le_of_lt (Blk.new w 3 #[]).lt
    intro v' w3 o3 g3 _
    have X3 := Lib.hid (grown_ext g3)
    have O3 := Lib.hid o3
    clear o3 g3
    go_wp2
    go_ret
    refine ⟨v', rfl, ?_, X3.out⟩
    have this := O3.out
    first
      | exact this
      | (rw [Nat.zero_add, List.nil_append] at this; exact this)
theorem infoW : (Tryz.prog.info? 96).map (fun i => (i.zero, i.size, i.bytes)) = some (some (.agg #[.int .i64 0, .int .i64 0]), 2, 16) := by kernel_rfl
set_option maxRecDepth 100000 in
set_option maxHeartbeats 2000000 in
theorem cloneW {w : World} {v : Value} {n : Nat} {c : Nat → Nat → Value} (h : Row w v n 2 c) (hn : n ≤ 1000000) (h1 : ∀ i j, (c i j).oneCell' = true) :
    Calls Tryz.prog 39 #[v] w (ClonePost w 96 n 2 c) := by
  obtain ⟨A, cap, rfl, hc1, hc2⟩ := h.form
  have HR := Lib.hid h
  clear h
  cases A with
  | none =>
    have hn0 : n = 0 := by
      rcases Nat.eq_zero_or_pos n with h0 | h0
      · exact h0
      · obtain ⟨b, off, e, _⟩ := Row.at_ HR.out 0 h0
        cases e
    subst hn0
    have hne : ∀ W c, (binOp .eql 26 (.slice none 0 c) (.slice none 0 0)).run Tryz.prog W = .ok (.bool true) W := fun W c => Lib.run_eql_slice_nil W _ _ none 0 c 0 0 Tryz.underlying26
    go_enter Tryz.func39, Tryz.ntmps39
    go_wp2
    go_ret
    exact ⟨_, rfl, ⟨by rw [flat_len], .inl ⟨rfl, rfl⟩⟩, Ext.refl _⟩
  | some a =>
    have hne : ∀ W n c, (binOp .eql 26 (.slice (some a) n c) (.slice none 0 0)).run Tryz.prog W = .ok (.bool false) W := fun W n c => Lib.run_eql_slice_nil W _ _ _ n c 0 0 Tryz.underlying26
    obtain ⟨i0, hi0, hz0, hz1, hz2⟩ := info_parts infoW
    have NW : Hid (∀ q u, (flat n 2 c)[q]? = some u → (w.alloc (.cells #[] 96)).cell? (a.add q) = some u) := Lib.hid (by
      intro q u hq
      have hpos := flat_some hq
      obtain ⟨b, off, e, hb, _⟩ := Row.at_ HR.out 0 (by have := hpos.2.1; omega)
      injection e with e
      subst e
      have HR2 := (HR.out.ext ((Ext.refl _).alloc (.cells #[] 96)))
      exact HR2.news q u hq)
    go_enter Tryz.func39, Tryz.ntmps39
    go_wp2_with (at_builtin; refine wpList_append_own _ rfl _ _ 26 rfl w.heap.size 96 i0 (.agg #[.int .i64 0, .int .i64 0]) 2 16 Tryz.underlying26 hi0 hz0 hz1 hz2 rfl (by decide) _ 0 [] rfl ?c0 a n cap (flat n 2 c) rfl ?c1 ?c2 ?c3 ?c4 ?c5 ?c6 ?_)
    case c0 => exact ⟨rfl, .inr ⟨w.heap.size, 0, #[], rfl, Nat.le_refl _, Blk.new _ _ _, Nat.le_refl _, Nat.zero_le _, rfl, rfl⟩⟩
    case c1 => exact flat_len _ _ _
    case c2 => exact NW.out
    case c3 =>
      intro u hu
      obtain ⟨q, hq, e⟩ := List.getElem_of_mem hu
      obtain ⟨_, _, rfl⟩ := flat_some (by rw [List.getElem?_eq_getElem hq, e])
      exact h1 _ _
    case c4 => unfold maxLen; omega
    case c5 => omega
    case c6 => exact Nat.le_of_lt (Blk.new w 96 #[]).lt
    intro v' w3 o3 g3 _
    have X3 := Lib.hid (grown_ext g3)
    have O3 := Lib.hid o3
    clear o3 g3
    go_wp2
    go_ret
    refine ⟨v', rfl, ?_, X3.out⟩
    have this := O3.out
    first
      | exact this
      | (rw [Nat.zero_add, List.nil_append] at this; exact this)
theorem infoS : (Tryz.prog.info? 9).map (fun i => (i.zero, i.size, i.bytes)) = some (some (.string ByteArray.empty), 1, 16) := by kernel_rfl
set_option maxRecDepth 100000 in
set_option maxHeartbeats 2000000 in
theorem cloneS {w : World} {v : Value} {n : Nat} {c : Nat → Nat → Value} (h : Row w v n 1 c) (hn : n ≤ 1000000) (h1 : ∀ i j, (c i j).oneCell' = true) :
    Calls Tryz.prog 40 #[v] w (ClonePost w 9 n 1 c) := by
  obtain ⟨A, cap, rfl, hc1, hc2⟩ := h.form
  have HR := Lib.hid h
  clear h
  cases A with
  | none =>
    have hn0 : n = 0 := by
      rcases Nat.eq_zero_or_pos n with h0 | h0
      · exact h0
      · obtain ⟨b, off, e, _⟩ := Row.at_ HR.out 0 h0
        cases e
    subst hn0
    have hne : ∀ W c, (binOp .eql 27 (.slice none 0 c) (.slice none 0 0)).run Tryz.prog W = .ok (.bool true) W := fun W c => Lib.run_eql_slice_nil W _ _ none 0 c 0 0 Tryz.underlying27
    go_enter Tryz.func40, Tryz.ntmps40
    go_wp2
    go_ret
    exact ⟨_, rfl, ⟨by rw [flat_len], .inl ⟨rfl, rfl⟩⟩, Ext.refl _⟩
  | some a =>
    have hne : ∀ W n c, (binOp .eql 27 (.slice (some a) n c) (.slice none 0 0)).run Tryz.prog W = .ok (.bool false) W := fun W n c => Lib.run_eql_slice_nil W _ _ _ n c 0 0 Tryz.underlying27
    obtain ⟨i0, hi0, hz0, hz1, hz2⟩ := info_parts infoS
    have NW : Hid (∀ q u, (flat n 1 c)[q]? = some u → (w.alloc (.cells #[] 9)).cell? (a.add q) = some u) := Lib.hid (by
      intro q u hq
      have hpos := flat_some hq
      obtain ⟨b, off, e, hb, _⟩ := Row.at_ HR.out 0 (by have := hpos.2.1; omega)
      injection e with e
      subst e
      have HR2 := (HR.out.ext ((Ext.refl _).alloc (.cells #[] 9)))
      exact HR2.news q u hq)
    go_enter Tryz.func40, Tryz.ntmps40
    go_wp2_with (at_builtin; refine wpList_append_own _ rfl _ _ 27 rfl w.heap.size 9 i0 (.string ByteArray.empty) 1 16 Tryz.underlying27 hi0 hz0 hz1 hz2 rfl (by decide) _ 0 [] rfl ?c0 a n cap (flat n 1 c) rfl ?c1 ?c2 ?c3 ?c4 ?c5 ?c6 ?_)
    case c0 => exact ⟨rfl, .inr ⟨w.heap.size, 0, #[], rfl, Nat.le_refl _, Blk.new _ _ _, Nat.le_refl _, Nat.zero_le _, rfl, rfl⟩⟩
    case c1 => exact flat_len _ _ _
    case c2 => exact NW.out
    case c3 =>
      intro u hu
      obtain ⟨q, hq, e⟩ := List.getElem_of_mem hu
      obtain ⟨_, _, rfl⟩ := flat_some (by rw [List.getElem?_eq_getElem hq, e])
      exact h1 _ _
    case c4 => unfold maxLen; omega
    case c5 => omega
    case c6 => exact Nat.le_of_lt (Blk.new w 9 #[]).lt
    intro v' w3 o3 g3 _
    have X3 := Lib.hid (grown_ext g3)
    have O3 := Lib.hid o3
    clear o3 g3
    go_wp2
    go_ret
    refine ⟨v', rfl, ?_, X3.out⟩
    have this := O3.out
    first
      | exact this
      | (rw [Nat.zero_add, List.nil_append] at this; exact this)
end Go.Proofs.YtjpalcejmloocaaGreat.World
