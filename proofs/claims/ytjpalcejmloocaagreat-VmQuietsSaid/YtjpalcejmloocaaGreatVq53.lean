/-
  Events, Quiet, as one text (a claim has at most 60 files).
-/
import Derived.Test.YtjpalcejmloocaaGreatVq52
import Derived.Test.YtjpalcejmloocaaGreatVq21
import Derived.Test.YtjpalcejmloocaaGreatVq22
import Derived.Deep.AppendLies
namespace Go.Proofs.YtjpalcejmloocaaGreat.World
open Go.RowKit Go.ChangeShapes Go.WideShapes Go.Deep Go.Proofs.YtjpalcejmloocaaGreat.Plain
set_option linter.unusedVariables false
attribute [local go_sem ↓] Go.wp_at_zero Go.wp_at_succ
structure EV where
  k : Int
  n : Int
  s : ByteArray
def dE : EV := ⟨0, 0, ByteArray.empty⟩
def eAt (l : List EV) (i : Nat) : EV := l.getD i dE
def cE1 (e : EV) : Nat → Value
  | 0 => .int .i64 e.k
  | 1 => .int .i64 e.n
  | _ => .string e.s
def cE (l : List EV) : Nat → Nat → Value := fun i j => cE1 (eAt l i) j
theorem cE_one (l : List EV) (i j : Nat) : (cE l i j).oneCell' = true := by
  unfold cE cE1
  split <;> rfl
theorem eAt_push (A : List EV) (u : EV) (q : Nat) (hq : q < A.length + 1) : eAt (A ++ [u]) q = if q = A.length then u else eAt A q := by
  unfold eAt
  by_cases e : q = A.length
  · subst e; rw [if_pos rfl, List.getD_eq_getElem?_getD, List.getElem?_append_right (Nat.le_refl _)]; simp
  · rw [if_neg e, List.getD_eq_getElem?_getD, List.getElem?_append_left (by omega), List.getD_eq_getElem?_getD]
theorem own_epush {w : World} {base n : Nat} {v : Value} {A : List EV} {u : EV} (hn : A.length = n) (h : w.ownsRow base 63 3 v (n + 1) (flat n 3 (cE A) ++ [.int .i64 u.k, .int .i64 u.n, .string u.s])) : Own w base 63 v (n + 1) 3 (cE (A ++ [u])) := by
  subst hn
  have e1 : (List.range 3).map (cE (A ++ [u]) A.length) = [.int .i64 u.k, .int .i64 u.n, .string u.s] := by
    rw [show List.range 3 = [0, 1, 2] from rfl]
    simp only [List.map_cons, List.map_nil, cE, cE1, eAt_push A u A.length (by omega), if_true]
  have e2 : flat A.length 3 (cE (A ++ [u])) = flat A.length 3 (cE A) := flat_congr (fun i j hi => by simp only [cE]; rw [eAt_push A u i (by omega), if_neg (by omega)])
  show w.ownsRow _ _ _ _ _ _
  rw [flat_succ, e1, e2]
  exact h
section
variable {H : Type} {enc : TypeId × Value → H} {w : World}
theorem td_event {cs : List Value} (h : Td H enc w 63 cs) : ∃ u : EV, (∀ j, j < 3 → cs[j]? = some (cE1 u j)) ∧ in64 u.k ∧ in64 u.n ∧ u.s.size ≤ maxLen := by
  obtain ⟨_, hf⟩ := td_struct Tryz.underlying63 h
  obtain ⟨a, e0, h0⟩ := td_int Tryz.underlying3 (hf 0 _ rfl)
  obtain ⟨b, e1, h1⟩ := td_int Tryz.underlying3 (hf 1 _ rfl)
  obtain ⟨c, e2, h2⟩ := td_str Tryz.underlying9 (hf 2 _ rfl)
  refine ⟨⟨a, b, c⟩, fun j hj => ?_, h0, h1, h2⟩
  rcases (show j = 0 ∨ j = 1 ∨ j = 2 by omega) with rfl | rfl | rfl
  · exact take1 (by kernel_rfl) e0
  · exact take1 (by kernel_rfl) e1
  · exact take1 (by kernel_rfl) e2
set_option maxRecDepth 100000 in
theorem open_events {r : Reach} {b0 : Nat} {v : Value} {d : DataW H} {p : List MemPlace} (hv : Value.okWide Tryz.prog w r b0 60 v) (h : DataW.Trod enc Tryz.prog w 0 (fun _ => true) true 60 v d p) :
    ∃ l, Row w v l.length 3 (cE l) ∧ (∀ u ∈ l, in64 u.k ∧ in64 u.n ∧ u.s.size ≤ maxLen) ∧ l.length ≤ maxLen := by
  obtain ⟨a, len, cap, rfl⟩ := okWide_slice Tryz.underlying60 hv
  obtain ⟨fuel, hf⟩ := h
  have hT : Td H enc w 60 [.slice a len cap] := ⟨fuel, _, hf⟩
  obtain ⟨A, n, cap', e, h1, h2, h3⟩ := td_slice Tryz.underlying60 (C := 3) (by kernel_rfl) (by omega) hT
  injection e with e
  injection e with e1 e2 e3
  subst e1 e2 e3
  have key : ∀ i, i < len → ∃ z : EV, (∃ b off, a = some ⟨b, off, none⟩ ∧ b < w.heap.size ∧ ∀ j, j < 3 → w.cell? ⟨b, off + i * 3 + j, none⟩ = some (cE1 z j)) ∧ (in64 z.k ∧ in64 z.n ∧ z.s.size ≤ maxLen) := fun i hi => by
    obtain ⟨b, off, cs', ea, hb, hc, ht'⟩ := h3 i hi
    obtain ⟨z, hz, hn⟩ := td_event ht'
    exact ⟨z, ⟨b, off, ea, hb, fun j hj => (hc j hj).trans (hz j hj)⟩, hn⟩
  haveI : Inhabited EV := ⟨dE⟩
  obtain ⟨f, hf⟩ := choose_lt key
  refine ⟨(List.range len).map f, ?_, fun x hx => ?_, by simp; omega⟩
  · refine ⟨a, cap, by simp, by simpa using h1, by unfold maxLen at h2; omega, fun i hi => ?_⟩
    have hi' : i < len := by simpa using hi
    obtain ⟨⟨b, off, ea, hb, hc⟩, _⟩ := hf i hi'
    have ev : eAt ((List.range len).map f) i = f i := by unfold eAt; rw [List.getD_eq_getElem?_getD, List.getElem?_map, List.getElem?_range hi']; rfl
    refine ⟨b, off, ea, hb, fun j hj => ?_⟩
    unfold cE
    rw [ev]
    exact hc j hj
  · obtain ⟨i, hi, rfl⟩ := List.mem_map.1 hx
    exact (hf i (List.mem_range.1 hi)).2
end
def quietE (l : List EV) : List EV := l.filter (fun u => u.k != 2)
theorem quiet_yes {l : List EV} {i : Nat} (hi : i < l.length) (h : (eAt l i).k ≠ 2) : quietE (l.take (i + 1)) = quietE (l.take i) ++ [eAt l i] := by
  unfold quietE eAt at *
  rw [List.getD_eq_getElem?_getD, List.getElem?_eq_getElem hi] at *
  rw [List.take_succ_eq_append_getElem hi, List.filter_append]
  simp only [Option.getD_some] at h ⊢
  rw [List.filter_cons_of_pos (by simpa using h)]
  rfl
theorem quiet_no {l : List EV} {i : Nat} (hi : i < l.length) (h : (eAt l i).k = 2) : quietE (l.take (i + 1)) = quietE (l.take i) := by
  unfold quietE eAt at *
  rw [List.getD_eq_getElem?_getD, List.getElem?_eq_getElem hi] at *
  rw [List.take_succ_eq_append_getElem hi, List.filter_append]
  simp only [Option.getD_some] at h
  rw [List.filter_cons_of_neg (by simp [h])]
  simp
theorem infoE : (Tryz.prog.info? 63).map (fun i => (i.zero, i.size, i.bytes)) = some (some (.agg #[.int .i64 0, .int .i64 0, .string ByteArray.empty]), 3, 32) := by kernel_rfl
end Go.Proofs.YtjpalcejmloocaaGreat.World
namespace Go.Proofs.YtjpalcejmloocaaGreat.World
open Go.RowKit Go.Proofs.YtjpalcejmloocaaGreat.Plain
set_option linter.unusedVariables false
attribute [local go_sem ↓] Go.wp_at_zero Go.wp_at_succ
section
variable {w : World}
set_option maxRecDepth 100000 in
set_option maxHeartbeats 2000000 in
theorem quiet_ {v : Value} {l : List EV} (h : Row w v l.length 3 (cE l)) (hl : l.length ≤ 100000) : Calls Tryz.prog 18 #[v] w fun e w' => ∃ A c, e = .returned (.slice A (quietE l).length c) ∧ Own w' w.heap.size 63 (.slice A (quietE l).length c) (quietE l).length 3 (cE (quietE l)) ∧ Ext w w' := by
  obtain ⟨A0, c0, ev, lc, lm⟩ := Row.form h
  subst ev
  have HH := Lib.hid h
  clear h
  obtain ⟨iE, hE, hE0, hE1, hE2⟩ := info_parts infoE
  have QY := Lib.hid (fun i (hi : i < l.length) h => quiet_yes (l := l) (i := i) hi h)
  have QN := Lib.hid (fun i (hi : i < l.length) h => quiet_no (l := l) (i := i) hi h)
  have QL : Hid (∀ i, (quietE (l.take i)).length ≤ 100000) := Lib.hid (fun i => Nat.le_trans (List.length_filter_le _ _) (by rw [List.length_take]; omega))
  go_enter Tryz.func18, Tryz.ntmps18
  go_wp2_with fail
  go_loopw [3, 8] (fun sv iv wr => ∃ i : Nat, i ≤ l.length ∧ iv = .int .i64 i ∧ ∃ A c n, (quietE (l.take i)).length = n ∧ sv = .slice A n c ∧ Own wr w.heap.size 63 (.slice A n c) n 3 (cE (quietE (l.take i))) ∧ Ext w wr) (fun _ iv _ => l.length - (intOf iv).toNat)
  case atStart => exact ⟨0, Nat.zero_le _, rfl, none, 0, 0, by rw [List.take_zero]; rfl, rfl, World.ownsRow_nil _ _ _ _, Ext.refl _⟩
  case round =>
    obtain ⟨i, hi, rfl, A, c, n, hn, rfl, O, x⟩ := hrel
    have OH := Lib.hid O
    have X := Lib.hid x
    have HN := Lib.hid hn
    have hn1 := QL.out i
    rw [hn] at hn1
    clear O x hn
    by_cases hlt : i < l.length
    · have iI : (i : Int) < (l.length : Int) := by omega
      obtain ⟨b, off, rfl, hb, hc⟩ := Row.at_ (HH.out.ext X.out) i hlt
      have d0 : wr.cell? ⟨b, off + i * 3, none⟩ = some (.int .i64 (eAt l i).k) := hc 0 (by omega)
      have d1 : wr.cell? ⟨b, off + i * 3 + 1, none⟩ = some (.int .i64 (eAt l i).n) := hc 1 (by omega)
      have d2 : wr.cell? ⟨b, off + i * 3 + 2, none⟩ = some (.string (eAt l i).s) := hc 2 (by omega)
      have Y := Lib.hid (QY.out i hlt)
      have N := Lib.hid (QN.out i hlt)
      have hn2 := QL.out (i + 1)
      clear hc
      generalize eAt l i = u at *
      obtain ⟨uk, un, us⟩ := u
      simp only at d0 d1 d2
      by_cases h2 : uk = 2
      · have e1 : (uk != 2) = false := by simp [h2]
        have EQ := Lib.hid (N.out h2)
        clear h2
        go_wp2_with fail
        go_roundw
        case rel => exact ⟨i + 1, by omega, by go_num, A, c, n, by rw [EQ.out]; exact HN.out, rfl, by rw [EQ.out]; exact OH.out.ext ((Ext.refl wr).alloc _), X.out.alloc _⟩
        case measure => simp [intOf] <;> omega
      · have e1 : (uk != 2) = true := by simp [h2]
        have EQ := Lib.hid (Y.out h2)
        clear h2
        have O5 : Hid (((wr.alloc (.cells #[.int .i64 uk, .int .i64 un, .string us] 63)).alloc (.cells #[.int .i64 uk, .int .i64 un, .string us] 63)).ownsRow w.heap.size 63 3 (.slice A n c) n (flat n 3 (cE (quietE (l.take i))))) := Lib.hid (Own.ext (OH.out) (((Ext.refl wr).alloc _).alloc _))
        have XA := Lib.hid ((X.out.alloc (.cells #[.int .i64 uk, .int .i64 un, .string us] 63)).alloc (.cells #[.int .i64 uk, .int .i64 un, .string us] 63))
        have HZ := Lib.hid XA.out.below.size
        go_wp2_with ((at_builtin; refine wpList_append_lies _ rfl _ _ _ rfl w.heap.size 63 iE (.agg #[.int .i64 0, .int .i64 0, .string ByteArray.empty]) 3 32 Tryz.underlying60 hE hE0 hE1 hE2 rfl (by decide) (.slice A n c) n (flat n 3 (cE (quietE (l.take i)))) (by rfl) O5.out ⟨wr.heap.size + 1, 0, none⟩ 1 1 [.int .i64 uk, .int .i64 un, .string us] (by rfl) (by rfl) (World.news_of_block (by have q := heap_alloc_new (wr.alloc (.cells #[.int .i64 uk, .int .i64 un, .string us] 63)) (.cells #[.int .i64 uk, .int .i64 un, .string us] 63); rw [World.size_alloc] at q; exact q)) (by simp [Value.oneCell']) (by omega) (by unfold maxLen; omega) (by omega) HZ.out (wr.heap.size + 2) (by rw [World.size_alloc, World.size_alloc]) ?_; intro gg cc w6 o6 g6 hat6 hlt6))
        have KG : Keep (fun j => Value.ownBlock (.slice A n c) = some j) ((wr.alloc (.cells #[.int .i64 uk, .int .i64 un, .string us] 63)).alloc (.cells #[.int .i64 uk, .int .i64 un, .string us] 63)) w6 := ⟨g6.os, g6.tape, g6.output, g6.size, fun k hk hn => g6.block k hk (fun e => hn e.symm)⟩
        have X6 : Ext w w6 := Ext.of_below (Keep.below XA.out.below KG XA.out.below.size (fun j hj e => by have := (OH.out.block e).1; omega))
        have O7 := own_epush (u := ⟨uk, un, us⟩) HN.out o6
        have HN1 : (quietE (l.take (i + 1))).length = n + 1 := by rw [EQ.out, List.length_append, HN.out]; rfl
        refine ⟨⟨i + 1, by omega, by go_num, some ⟨gg, 0, none⟩, cc, n + 1, HN1, rfl, ?_, X6⟩, by simp [intOf] <;> omega⟩
        rw [EQ.out]
        exact O7
    · obtain rfl : i = l.length := by omega
      rw [List.take_length] at OH HN
      have e := HN.out
      go_wp2_with fail
      go_ret
      subst e
      exact ⟨A, c, rfl, OH.out, X.out⟩
end
end Go.Proofs.YtjpalcejmloocaaGreat.World
