/-
  Contracts of package free (chapter 4): New, Take, Words, Longest; slices.Delete at runs.
-/
import Derived.Test.YtjpalcejmloocaaRows
import Derived.Test.YtjpalcejmloocaaExt
import Derived.Test.YtjpalcejmloocaaFreePlain
import Derived.Lib.Hide
import Derived.OwnWalk
import Derived.Laws.OwnMore
import Derived.Deep.RegionHeld3
import Derived.Deep.RegionLaw
import Derived.Deep.MidRow
import Derived.Lib.SliceRun
namespace Go.Proofs.Ytjpalcejmloocaa.Free
open Go.RowKit Go.Proofs.Ytjpalcejmloocaa.Plain
set_option linter.unusedVariables false

def cells2 (L : List Run) : List Value := L.flatMap fun r => [.int .i64 r.1, .int .i64 r.2]
theorem cells2_len (L : List Run) : (cells2 L).length = L.length * 2 := by
  induction L with
  | nil => rfl
  | cons r L ih => simp only [cells2, List.flatMap_cons, List.length_append, List.length_cons, List.length_nil] at ih ⊢; omega
theorem cells2_at (L : List Run) (j : Nat) (r : Run) (h : L[j]? = some r) : (cells2 L)[j * 2]? = some (.int .i64 r.1) ∧ (cells2 L)[j * 2 + 1]? = some (.int .i64 r.2) := by
  induction L generalizing j with
  | nil => simp at h
  | cons s L ih =>
    rcases j with _ | j
    · simp at h; subst h; exact ⟨rfl, rfl⟩
    · have := ih j (by simpa using h)
      have e : ∀ k, (cells2 (s :: L))[k + 2]? = (cells2 L)[k]? := fun k => by simp [cells2]
      rw [show (j + 1) * 2 = j * 2 + 2 from by omega, e, show j * 2 + 2 + 1 = j * 2 + 1 + 2 from by omega, e]
      exact this
/-- a row of runs, whole -/
structure Rw (w : World) (g cap : Nat) (cur : Array Value) (L : List Run) : Prop where
  blk : Blk w g 78 cur
  le : L.length ≤ cap
  capLe : cap ≤ maxLen
  size : cur.size = cap * 2
  at_ : ∀ (j : Nat) (r : Run), L[j]? = some r → cur[j * 2]? = some (.int .i64 r.1) ∧ cur[j * 2 + 1]? = some (.int .i64 r.2)
theorem Rw.drew {w : World} {g cap : Nat} {cur : Array Value} {L : List Run} (h : Rw w g cap cur L) : Rw w.drew g cap cur L := ⟨h.blk.drew, h.le, h.capLe, h.size, h.at_⟩
theorem own_rw {w : World} {base : Nat} {v : Value} {L : List Run} (h : w.ownsRow base 78 2 v L.length (cells2 L)) :
    (v = .slice none 0 0 ∧ L = []) ∨ ∃ g cap cur, v = .slice (some ⟨g, 0, none⟩) L.length cap ∧ base ≤ g ∧ Rw w g cap cur L := by
  rcases h.2 with ⟨rfl, h0⟩ | ⟨g, cap, cur, rfl, hb, hg, hn, hcap, hsz, htake⟩
  · exact .inl ⟨rfl, List.length_eq_zero_iff.1 h0⟩
  · refine .inr ⟨g, cap, cur, rfl, hb, hg, hn, hcap, hsz, fun j r hj => ?_⟩
    have hjl : j < L.length := (List.getElem?_eq_some_iff.1 hj).1
    obtain ⟨h1, h2⟩ := cells2_at L j r hj
    rw [← htake] at h1 h2
    rw [List.getElem?_take_of_lt (by omega)] at h1 h2
    exact ⟨by simpa using h1, by simpa using h2⟩
theorem cells2_eq (L : List Run) (l : List Value) (hl : L.length * 2 ≤ l.length) (h : ∀ (j : Nat) (r : Run), L[j]? = some r → l[j * 2]? = some (.int .i64 r.1) ∧ l[j * 2 + 1]? = some (.int .i64 r.2)) : l.take (L.length * 2) = cells2 L := by
  apply List.ext_getElem?
  intro k
  by_cases hk : k < L.length * 2
  · rw [List.getElem?_take_of_lt hk]
    have hj : k / 2 < L.length := by omega
    have e := List.getElem?_eq_getElem hj
    obtain ⟨a1, a2⟩ := h _ _ e
    obtain ⟨b1, b2⟩ := cells2_at L _ _ e
    rcases (by omega : k = k / 2 * 2 ∨ k = k / 2 * 2 + 1) with hk2 | hk2
    · rw [hk2, a1, b1]
    · rw [hk2, a2, b2]
  · rw [List.getElem?_eq_none (by rw [List.length_take]; omega), List.getElem?_eq_none (by rw [cells2_len]; omega)]
theorem Rw.own {w : World} {base g cap : Nat} {cur : Array Value} {L : List Run} (h : Rw w g cap cur L) (hb : base ≤ g) : w.ownsRow base 78 2 (.slice (some ⟨g, 0, none⟩) L.length cap) L.length (cells2 L) :=
  ⟨cells2_len L, .inr ⟨g, cap, cur, rfl, hb, h.blk, h.le, h.capLe, h.size, cells2_eq L cur.toList (by have := h.size; have := h.le; simp; omega) (fun j r hj => by simpa using h.at_ j r hj)⟩⟩
theorem info2 : (Try.prog.info? 78).map (fun i => (i.zero, i.size, i.bytes)) = some (some (.agg #[.int .i64 0, .int .i64 0]), 2, 16) := by kernel_rfl
theorem zero2 (w : World) : Sem.run Try.prog (zeroValue 78) w = .ok (.agg #[.int .i64 0, .int .i64 0]) w := by kernel_rfl
/-- stores one behind the other into a block that is known whole -/
def setAll (cs : Array Value) : Nat → List Value → Array Value
  | _, [] => cs
  | o, v :: vs => setAll (cs.setIfInBounds o v) (o + 1) vs
theorem setAll_size (vs : List Value) : ∀ (cs : Array Value) (o : Nat), (setAll cs o vs).size = cs.size := by
  induction vs with
  | nil => intro cs o; rfl
  | cons v vs ih => intro cs o; rw [setAll, ih]; simp
theorem setAll_at (vs : List Value) : ∀ (cs : Array Value) (o k : Nat), o + vs.length ≤ cs.size → (setAll cs o vs)[k]? = if o ≤ k ∧ k < o + vs.length then vs[k - o]? else cs[k]? := by
  induction vs with
  | nil => intro cs o k h; rw [if_neg (by simp)]; rfl
  | cons v vs ih =>
    intro cs o k h
    simp only [List.length_cons] at h ⊢
    rw [setAll, ih _ _ _ (by simp; omega)]
    by_cases h1 : o + 1 ≤ k ∧ k < o + 1 + vs.length
    · rw [if_pos h1, if_pos (by omega), show k - o = (k - (o + 1)) + 1 from by omega]; rfl
    · rw [if_neg h1]
      by_cases h2 : k = o
      · subst h2
        rw [if_pos (by omega), Array.getElem?_setIfInBounds_self_of_lt (by omega)]; simp
      · rw [if_neg (by omega), Array.getElem?_setIfInBounds_ne (by omega)]
theorem blk_setCells {w : World} {g : Nat} {t : TypeId} {cs : Array Value} (h : Blk w g t cs) (o : Nat) (vs : List Value) : Blk (w.setCells g o vs) g t (setAll cs o vs) := by
  induction vs generalizing w cs o with
  | nil => exact h
  | cons v vs ih => exact ih (h.set o v) (o + 1)
theorem keep_setCells (w : World) (g o : Nat) (vs : List Value) : Keep (· = g) w (w.setCells g o vs) := by
  induction vs generalizing w o with
  | nil => exact Keep.refl _ _
  | cons v vs ih => exact (((Keep.refl (· = g) w).setCell (p := ⟨g, o, none⟩) rfl v)).trans (ih _ _)
theorem drop_at (L : List Run) (i k : Nat) (u : Value) (h : ((cells2 L).drop ((i + 1) * 2))[k]? = some u) : (cells2 L)[(i + 1) * 2 + k]? = some u := by
  rw [List.getElem?_drop] at h; exact h
theorem cells2_one (L : List Run) : ∀ u ∈ cells2 L, u.oneCell' = true := by
  intro u hu
  obtain ⟨r, _, hr⟩ := List.mem_flatMap.1 hu
  simp at hr
  rcases hr with rfl | rfl <;> rfl
theorem Rw.cells {w : World} {g cap : Nat} {cur : Array Value} {L : List Run} (h : Rw w g cap cur L) (k : Nat) (u : Value) (hk : (cells2 L)[k]? = some u) : w.cell? ⟨g, k, none⟩ = some u := by
  have hkl : k < L.length * 2 := by rw [← cells2_len]; exact (List.getElem?_eq_some_iff.1 hk).1
  have hj : k / 2 < L.length := by omega
  have e := List.getElem?_eq_getElem hj
  obtain ⟨a1, a2⟩ := h.at_ _ _ e
  obtain ⟨b1, b2⟩ := cells2_at L _ _ e
  rw [h.blk.cell]
  rcases (by omega : k = k / 2 * 2 ∨ k = k / 2 * 2 + 1) with hk2 | hk2
  · rw [hk2] at hk ⊢; rw [a1, ← b1, hk]
  · rw [hk2] at hk ⊢; rw [a2, ← b2, hk]
theorem clear1 (W : World) (ty : TypeId) (g o n c : Nat) (hn : n = 1) (h0 : (W.cell? ⟨g, o, none⟩).isSome = true) (h1 : (W.cell? ⟨g, o + 1, none⟩).isSome = true) (f0 : W.frozen? ⟨g, o, none⟩ = false) (f1 : W.frozen? ⟨g, o + 1, none⟩ = false) :
    Sem.run Try.prog (Builtin.clear_ #[75] ty #[.slice (some ⟨g, o, none⟩) n c]) W = .ok (.tuple #[]) (W.setCells g o [.int .i64 0, .int .i64 0]) := by
  subst hn
  have hst := run_storeCells_cells (P := Try.prog) g o [.int .i64 0, .int .i64 0] 0 W (by
    intro j hj
    rcases j with _ | _ | j
    · simpa using h0
    · simpa using h1
    · simp at hj; omega) (by
    intro j hj
    rcases j with _ | _ | j
    · simpa using f0
    · simpa using f1
    · simp at hj; omega) (by simp [Value.oneCell'])
  simp only [Nat.add_zero] at hst
  have hzc : (Builtin.zeroCells (Value.agg #[.int .i64 0, .int .i64 0]).cells 1).toList = [.int .i64 0, .int .i64 0] := by kernel_rfl
  simp [Builtin.clear_, run_underlying Try.underlying75, zero2, hzc, hst]
theorem erase_at {L : List Run} {i m : Nat} (hL : L.length = i + 1 + m) (j : Nat) : (L.eraseIdx i)[j]? = if j < i then L[j]? else L[j + 1]? := by
  rw [List.getElem?_eraseIdx]
theorem erased {w w' : World} {g cap : Nat} {cur : Array Value} {L : List Run} {i m : Nat} {news : List Value} (h : Rw w g cap cur L) (hL : L.length = i + 1 + m) (hn : (cells2 L).drop ((i + 1) * 2) = news) (hnl : news.length = m * 2)
    (hw : w' = ((w.setCells g (i * 2) news).setCells g ((i + m) * 2) [.int .i64 0, .int .i64 0])) : (∃ cur', Rw w' g cap cur' (L.eraseIdx i)) ∧ Keep (· = g) w w' := by
  subst hw
  have hle := h.le
  have hs := h.size
  refine ⟨⟨_, blk_setCells (blk_setCells h.blk _ _) _ _, ?_, h.capLe, ?_, ?_⟩, (keep_setCells _ _ _ _).trans (keep_setCells _ _ _ _)⟩
  · rw [List.length_eraseIdx]; split <;> omega
  · rw [setAll_size, setAll_size, hs]
  · intro j r hj
    rw [erase_at hL] at hj
    have hjl : j < i + m := by
      by_cases h1 : j < i
      · omega
      · rw [if_neg h1] at hj
        have := (List.getElem?_eq_some_iff.1 hj).1
        omega
    have key : ∀ k, k < (i + m) * 2 → (setAll (setAll cur (i * 2) news) ((i + m) * 2) [.int .i64 0, .int .i64 0])[k]? = if i * 2 ≤ k ∧ k < i * 2 + news.length then news[k - i * 2]? else cur[k]? := fun k hk => by
      rw [setAll_at _ _ _ _ (by rw [setAll_size]; simp; omega), if_neg (by omega), setAll_at _ _ _ _ (by omega)]
    rw [key _ (by omega), key _ (by omega)]
    by_cases h1 : j < i
    · rw [if_pos h1] at hj
      rw [if_neg (by omega), if_neg (by omega)]
      exact h.at_ j r hj
    · rw [if_neg h1] at hj
      obtain ⟨b1, b2⟩ := cells2_at L _ _ hj
      rw [if_pos (by omega), if_pos (by omega), ← hn, List.getElem?_drop, List.getElem?_drop]
      rw [show (i + 1) * 2 + (j * 2 - i * 2) = (j + 1) * 2 from by omega, show (i + 1) * 2 + (j * 2 + 1 - i * 2) = (j + 1) * 2 + 1 from by omega]
      exact ⟨b1, b2⟩
set_option maxRecDepth 100000 in
set_option maxHeartbeats 1000000 in
theorem delete {w : World} {g cap : Nat} {cur : Array Value} {L : List Run} {i m : Nat} (h : Rw w g cap cur L) (hL : L.length = i + 1 + m) (hc : L.length ≤ 100000) :
    Calls Try.prog 54 #[.slice (some ⟨g, 0, none⟩) (i + 1 + m) cap, .int .i64 i, .int .i64 ((i : Int) + 1)] w fun e w' => e = .returned (.slice (some ⟨g, 0, none⟩) (i + m) cap) ∧ (∃ cur', Rw w' g cap cur' (L.eraseIdx i)) ∧ Keep (· = g) w w' := by
  obtain ⟨i0, hi0, hz0, hz1, hz2⟩ := info_parts info2
  have hle := h.le
  rw [hL] at hle hc
  have hcap := h.capLe
  unfold maxLen at hcap
  have hz := zero2
  have d1 : ((i : Int) == (i : Int) + 1) = false := by rw [beq_eq_false_iff_ne]; omega
  have nl : ((cells2 L).drop ((i + 1) * 2)).length = m * 2 := by rw [List.length_drop, cells2_len, hL]; omega
  obtain ⟨A, hA, hnews⟩ : ∃ A : Addr, (if cap = i + 1 then some (⟨g, 0, none⟩ : Addr) else some ⟨g, (i + 1) * 2, none⟩) = some A ∧ Hid (∀ j u, ((cells2 L).drop ((i + 1) * 2))[j]? = some u → w.drew.cell? (A.add j) = some u) := by
    by_cases hcap : cap = i + 1
    · refine ⟨⟨g, 0, none⟩, by simp [hcap], fun j u hu => ?_⟩
      have := (List.getElem?_eq_some_iff.1 hu).1
      omega
    · refine ⟨⟨g, (i + 1) * 2, none⟩, by simp [hcap], fun j u hu => ?_⟩
      rw [Addr.add_lit]
      exact h.cells _ _ (drop_at L i j u hu)
  have s1 := Lib.hid nl
  have s2 : Hid (∀ u ∈ (cells2 L).drop ((i + 1) * 2), u.oneCell' = true) := fun u hu => cells2_one L u (List.mem_of_mem_drop hu)
  have s3 : Hid (∀ j, j < ((cells2 L).drop ((i + 1) * 2)).length → (w.drew.cell? ⟨g, 0 + i * 2 + j, none⟩).isSome = true ∧ w.drew.frozen? ⟨g, 0 + i * 2 + j, none⟩ = false) := by
    intro j hj
    rw [nl] at hj
    have hs := h.size
    exact ⟨by show (w.cell? _).isSome = true; rw [h.blk.cell, Array.getElem?_eq_getElem (by omega)]; rfl, h.blk.frozen _⟩
  have hbs := blk_setCells (w := w.drew) h.blk (i * 2) ((cells2 L).drop ((i + 1) * 2))
  have hsz := h.size
  have C1 : Hid (((w.drew.setCells g (i * 2) ((cells2 L).drop ((i + 1) * 2))).cell? ⟨g, (i + m) * 2, none⟩).isSome = true) := by
    rw [hbs.cell, Array.getElem?_eq_getElem (by rw [setAll_size]; omega)]; exact Lib.hid rfl
  have C2 : Hid (((w.drew.setCells g (i * 2) ((cells2 L).drop ((i + 1) * 2))).cell? ⟨g, (i + m) * 2 + 1, none⟩).isSome = true) := by
    rw [hbs.cell, Array.getElem?_eq_getElem (by rw [setAll_size]; omega)]; exact Lib.hid rfl
  have F1 := Lib.hid (hbs.frozen ((i + m) * 2))
  have F2 := Lib.hid (hbs.frozen ((i + m) * 2 + 1))
  have H := Lib.hid h
  have HL := Lib.hid hL
  clear nl h hL hbs hsz
  generalize hnw : (cells2 L).drop ((i + 1) * 2) = news at s1 s2 s3 hnews C1 C2 F1 F2
  have HW := Lib.hid hnw
  clear hnw
  have e1 : (0 : Int) ≤ (i : Int) + 1 := by omega
  have e2 : ((i : Int) + 1).toNat = i + 1 := by omega
  have e3 : (i : Int) + 1 ≤ (i : Int) + 1 + (m : Int) := by omega
  have e4 : i ≤ cap := by omega
  go_enter Try.func54, Try.ntmps54
  go_wp2_with fail
  go_region_law (refine step_append_room rfl (.tmp 22) (.tmp 25) 75 rfl 78 i0 2 Try.underlying75 hi0 hz1 g 0 i cap (by simp [Act.eval, Act.put]) A m (cap - (i + 1)) news (by simp [Act.eval, Act.put]) s1.out hnews.out s2.out (by omega) s3.out ?_)
  have hcl := clear1 (w.drew.setCells g (i * 2) news) 0 g ((i + m) * 2) (i + 1 + m - (i + m)) (cap - (i + m)) (by omega) C1.out C2.out F1.out F2.out
  go_wp2
  go_ret
  have hE := erased (w := w.drew) H.out.drew HL.out HW.out s1.out rfl
  exact ⟨rfl, hE.1, (Keep.refl _ w).drew.trans hE.2⟩
theorem Rw.keep {w w' : World} {g cap : Nat} {cur : Array Value} {L : List Run} {S : Nat → Prop} (h : Rw w g cap cur L) (k : Keep S w w') (hs : ¬ S g) : Rw w' g cap cur L := ⟨h.blk.keep k hs, h.le, h.capLe, h.size, h.at_⟩
theorem Rw.ext {w w' : World} {g cap : Nat} {cur : Array Value} {L : List Run} (h : Rw w g cap cur L) (x : Ext w w') : Rw w' g cap cur L := ⟨h.blk.ext x, h.le, h.capLe, h.size, h.at_⟩
theorem Rw.set {w : World} {g cap : Nat} {cur : Array Value} {L : List Run} (h : Rw w g cap cur L) (b : Nat) (hb : b < L.length) (y z : Int) :
    Rw ((w.setCell ⟨g, b * 2, none⟩ (.int .i64 y)).setCell ⟨g, b * 2 + 1, none⟩ (.int .i64 z)) g cap ((cur.setIfInBounds (b * 2) (.int .i64 y)).setIfInBounds (b * 2 + 1) (.int .i64 z)) (L.set b (y, z)) := by
  have hs := h.size
  have hle := h.le
  refine ⟨(h.blk.set _ _).set _ _, by simpa using hle, h.capLe, by simpa using hs, fun j r hj => ?_⟩
  rw [List.getElem?_set] at hj
  by_cases hjb : b = j
  · subst hjb
    rw [if_pos rfl, if_pos hb] at hj
    injection hj with hj
    subst hj
    refine ⟨?_, ?_⟩
    · rw [Array.getElem?_setIfInBounds_ne (by omega), Array.getElem?_setIfInBounds_self_of_lt (by omega)]
    · rw [Array.getElem?_setIfInBounds_self_of_lt (by simp; omega)]
  · rw [if_neg hjb] at hj
    rw [Array.getElem?_setIfInBounds_ne (by omega), Array.getElem?_setIfInBounds_ne (by omega), Array.getElem?_setIfInBounds_ne (by omega), Array.getElem?_setIfInBounds_ne (by omega)]
    exact h.at_ j r hj
theorem erase_set (L : List Run) (b : Nat) (y : Run) : (L.set b y).eraseIdx b = L.eraseIdx b := by
  apply List.ext_getElem?
  intro j
  rw [List.getElem?_eraseIdx, List.getElem?_eraseIdx]
  split
  · rw [List.getElem?_set_ne (by omega)]
  · rw [List.getElem?_set_ne (by omega)]
theorem then_name {K : Act → World → Prop} {Q : Exit → Act → World → Prop} {ex : Exit} {a : Act} {w : World} (h : ∀ W, W = w → Exit.then K Q ex a W) : Exit.then K Q ex a w := h w rfl
/-! ### Take -/
abbrev nth (L : List Run) (k : Nat) : Run := L.getD k (0, 0)
def bst (L : List Run) (n : Int) : Nat → Option Nat
  | 0 => none
  | k + 1 => match bst L n k with
    | none => if n ≤ (nth L k).2 then some k else none
    | some b => if n ≤ (nth L k).2 ∧ (nth L k).2 < (nth L b).2 then some k else some b
theorem bst_lt (L : List Run) (n : Int) (k b : Nat) (h : bst L n k = some b) : b < k := by
  induction k generalizing b with
  | zero => simp [bst] at h
  | succ k ih =>
    unfold bst at h
    cases hb : bst L n k with
    | none =>
      rw [hb] at h
      simp only at h
      split at h
      · injection h with h; omega
      · cases h
    | some c =>
      rw [hb] at h
      simp only at h
      have := ih c hb
      split at h <;> injection h with h <;> omega
theorem bst_ge (L : List Run) (n : Int) (k b : Nat) (h : bst L n k = some b) : n ≤ (nth L b).2 := by
  induction k generalizing b with
  | zero => simp [bst] at h
  | succ k ih =>
    unfold bst at h
    cases hb : bst L n k with
    | none =>
      rw [hb] at h
      simp only at h
      split at h
      · injection h with h; subst h; assumption
      · cases h
    | some c =>
      rw [hb] at h
      simp only at h
      have hc := ih c hb
      split at h
      · rename_i hh; injection h with h; subst h; exact hh.1
      · injection h with h; subst h; exact hc
theorem nth_some (L : List Run) (k : Nat) (h : k < L.length) : L[k]? = some (nth L k) := by
  unfold nth; rw [List.getD_eq_getElem?_getD, List.getElem?_eq_getElem h]; rfl
theorem Rw.get {w wr : World} {g cap : Nat} {cur : Array Value} {L : List Run} (h : Rw w g cap cur L) (x : Ext w wr) (k : Nat) (hk : k < L.length) :
    wr.cell? ⟨g, k * 2, none⟩ = some (.int .i64 (nth L k).1) ∧ wr.cell? ⟨g, k * 2 + 1, none⟩ = some (.int .i64 (nth L k).2) := by
  obtain ⟨a1, a2⟩ := h.at_ k _ (nth_some L k hk)
  exact ⟨(x.below.cell (p := ⟨g, k * 2, none⟩) h.blk.lt).trans ((h.blk.cell _).trans a1), (x.below.cell (p := ⟨g, k * 2 + 1, none⟩) h.blk.lt).trans ((h.blk.cell _).trans a2)⟩
theorem nth_mem (L : List Run) (k : Nat) (h : k < L.length) : nth L k ∈ L := List.mem_of_getElem? (nth_some L k h)
def bI : Option Nat → Int
  | none => -1
  | some b => b
structure Fre (w : World) (g base : Nat) (v : Value) (L : List Run) (n : Int) : Prop where
  blk : Blk w g 77 #[.int .i64 n, v]
  own : w.ownsRow base 78 2 v L.length (cells2 L)
  len : L.length ≤ 70000
  bd : ∀ r ∈ L, 0 ≤ r.1 ∧ 1 ≤ r.2 ∧ r.1 + r.2 ≤ 65536
def takeAt (L : List Run) (b : Nat) (n : Int) : List Run := if (nth L b).2 = n then L.eraseIdx b else L.set b ((nth L b).1 + n, (nth L b).2 - n)
def TakePost (w : World) (g base : Nat) (v : Value) (L : List Run) (N n : Int) (e : Ending) (w' : World) : Prop :=
  (bst L n L.length = none → e = .returned (.tuple #[.int .i64 0, .bool false]) ∧ Ext w w') ∧
  (∀ b, bst L n L.length = some b → e = .returned (.tuple #[.int .i64 (nth L b).1, .bool true]) ∧ (∃ v', Fre w' g base v' (takeAt L b n) N) ∧ Keep (fun k => k = g ∨ v.ownBlock = some k) w w')
theorem own_keep {w w' : World} {S : Nat → Prop} {base : Nat} {e : TypeId} {size : Nat} {v : Value} {n : Nat} {xs : List Value} (h : w.ownsRow base e size v n xs) (k : Keep S w w') (hs : ∀ g, v.ownBlock = some g → ¬ S g) : w'.ownsRow base e size v n xs := by
  refine ⟨h.1, ?_⟩
  rcases h.2 with hn | ⟨g, cap, cur, rfl, hb, hgg, rest⟩
  · exact .inl hn
  · refine .inr ⟨g, cap, cur, rfl, hb, ?_, rest⟩
    rw [k.block g (Array.getElem?_eq_some_iff.1 hgg).1 (hs g rfl)]
    exact hgg
theorem Fre.keep {w w' : World} {g base : Nat} {v : Value} {L : List Run} {n : Int} {S : Nat → Prop} (h : Fre w g base v L n) (k : Keep S w w') (h1 : ¬ S g) (h2 : ∀ j, v.ownBlock = some j → ¬ S j) : Fre w' g base v L n :=
  ⟨h.blk.keep k h1, own_keep h.own k h2, h.len, h.bd⟩
theorem Fre.ext {w w' : World} {g base : Nat} {v : Value} {L : List Run} {n : Int} (h : Fre w g base v L n) (x : Ext w w') : Fre w' g base v L n := h.keep (Keep.of_ext x (fun _ => False)) (fun h => h) (fun _ _ h => h)
set_option maxRecDepth 100000 in
set_option maxHeartbeats 2000000 in
theorem take {w : World} {g base : Nat} {v : Value} {L : List Run} {N n : Int} (h : Fre w g base v L N) (hn : 1 ≤ n) (hn2 : n ≤ 1000000) :
    Calls Try.prog 27 #[.pointer (some ⟨g, 0, none⟩), .int .i64 n] w (TakePost w g base v L N n) := by
  rcases own_rw h.own with ⟨rfl, rfl⟩ | ⟨gr, cap, cur, rfl, hbase, hr⟩
  · obtain ⟨r1, r2, r3⟩ := h.blk.rules
    go_enter Try.func27, Try.ntmps27
    go_wp2
    go_loopw [6, 15] (fun b i wr => b = .int .i64 (-1) ∧ i = .int .i64 0 ∧ Ext w wr) (fun _ _ _ => 0)
    case atStart => exact ⟨rfl, rfl, Ext.refl _⟩
    case round =>
      obtain ⟨rfl, rfl, hx⟩ := hrel
      go_wp2
      go_ret2
      exact ⟨fun _ => ⟨rfl, hx⟩, fun b hb => by cases hb⟩
  · have hle := h.len
    obtain ⟨r1, r2, r3⟩ := h.blk.rules
    have HB := Lib.hid h.bd
    have HR := Lib.hid hr
    have BF := Lib.hid h.blk
    have hcap := hr.capLe
    have hlc := hr.le
    unfold maxLen at hcap
    clear h hr
    generalize hll : L.length = len at r1 hle hlc ⊢
    have HL := Lib.hid hll
    clear hll
    have dn : decide (1 ≤ n) = true := by simpa using hn
    go_enter Try.func27, Try.ntmps27
    go_wp2
    go_loopw [6, 15] (fun b i wr => ∃ k : Nat, k ≤ len ∧ i = .int .i64 k ∧ b = .int .i64 (bI (bst L n k)) ∧ Ext w wr) (fun _ i _ => len - (intOf i).toNat)
    case atStart => exact ⟨0, Nat.zero_le _, rfl, rfl, Ext.refl _⟩
    case round =>
      obtain ⟨k, hk, rfl, rfl, hx⟩ := hrel
      by_cases hlt : k < len
      · obtain ⟨c1, c2⟩ := HR.out.get hx k (by rw [HL.out]; exact hlt)
        obtain ⟨q1, q3, q4⟩ := HB.out _ (nth_mem L k (by rw [HL.out]; exact hlt))
        have cv : wr.cell? ⟨g, 1, none⟩ = some (.slice (some ⟨gr, 0, none⟩) len cap) := (hx.below.cell (p := ⟨g, 1, none⟩) r3).trans (r1 1)
        have hgw : g < wr.heap.size := by have := hx.below.size; omega
        have hgr : gr < wr.heap.size := by have := hx.below.size; have := HR.out.blk.lt; omega
        have B0 : Hid (bst L n (k + 1) = match bst L n k with | none => if n ≤ (nth L k).2 then some k else none | some b => if n ≤ (nth L k).2 ∧ (nth L k).2 < (nth L b).2 then some k else some b) := rfl
        by_cases h2 : n ≤ (nth L k).2
        · have d2 : decide (n ≤ (nth L k).2) = true := by simpa using h2
          cases hb : bst L n k with
          | none =>
            have B : Hid (bst L n (k + 1) = some k) := by rw [B0.out, hb]; exact Lib.hid (if_pos h2)
            clear hb h2 B0
            generalize nth L k = x at *
            unfold bI
            go_wp2
            go_quiet (fail)
            go_wp2
            go_roundw
            case rel => exact ⟨k + 1, by omega, by go_num, by rw [B.out], (hx.alloc _).drewN _⟩
            case measure => simp [intOf]; omega
          | some b =>
            have hbk := bst_lt L n k b hb
            obtain ⟨e1, e2⟩ := HR.out.get hx b (by rw [HL.out]; omega)
            by_cases h3 : (nth L k).2 < (nth L b).2
            · have B : Hid (bst L n (k + 1) = some k) := by rw [B0.out, hb]; exact Lib.hid (if_pos ⟨h2, h3⟩)
              have d3 : decide ((nth L k).2 < (nth L b).2) = true := by simpa using h3
              clear hb h2 h3 B0 e1
              generalize nth L k = x at *
              generalize nth L b = y at *
              have b1 : (b : Int) < (len : Int) := by omega
              unfold bI
              go_wp2
              go_quiet (fail)
              go_wp2
              go_roundw
              case rel => exact ⟨k + 1, by omega, by go_num, by rw [B.out], (hx.alloc _).drewN _⟩
              case measure => simp [intOf]; omega
            · have B : Hid (bst L n (k + 1) = some b) := by rw [B0.out, hb]; exact Lib.hid (if_neg (fun hh => h3 hh.2))
              have d3 : decide ((nth L k).2 < (nth L b).2) = false := by simpa using h3
              clear hb h2 h3 B0 e1
              generalize nth L k = x at *
              generalize nth L b = y at *
              have b1 : (b : Int) < (len : Int) := by omega
              unfold bI
              go_wp2
              go_quiet (fail)
              go_wp2
              go_roundw
              case rel => exact ⟨k + 1, by omega, by go_num, by rw [B.out], (hx.alloc _).drewN _⟩
              case measure => simp [intOf]; omega
        · have d2 : decide (n ≤ (nth L k).2) = false := by simpa using h2
          have B : Hid (bst L n (k + 1) = bst L n k) := by
            rw [B0.out]
            cases hb : bst L n k with
            | none => exact Lib.hid (if_neg h2)
            | some b => exact Lib.hid (if_neg (fun hh => h2 hh.1))
          clear h2 B0
          generalize nth L k = x at *
          generalize bst L n k = bb at *
          go_wp2
          go_quiet (fail)
          go_wp2
          go_roundw
          case rel => exact ⟨k + 1, by omega, by go_num, by rw [B.out], (hx.alloc _).drewN _⟩
          case measure => simp [intOf]; omega
      · obtain rfl : k = len := by omega
        cases hb : bst L n k with
        | none =>
          have HN : Hid (bst L n L.length = none) := by rw [HL.out]; exact hb
          clear hb
          unfold bI
          go_wp2
          go_ret2
          exact ⟨fun _ => ⟨rfl, hx⟩, fun b hb => by rw [HN.out] at hb; cases hb⟩
        | some b =>
          have HN : Hid (bst L n L.length = some b) := by rw [HL.out]; exact hb
          have hbk := bst_lt L n k b hb
          have hge := bst_ge L n k b hb
          clear hb
          obtain ⟨c1, c2⟩ := HR.out.get hx b (by rw [HL.out]; omega)
          obtain ⟨q1, q3, q4⟩ := HB.out _ (nth_mem L b (by rw [HL.out]; omega))
          have cv : wr.cell? ⟨g, 1, none⟩ = some (.slice (some ⟨gr, 0, none⟩) k cap) := (hx.below.cell (p := ⟨g, 1, none⟩) r3).trans (r1 1)
          have hgw : g < wr.heap.size := by have := hx.below.size; omega
          have hgr : gr < wr.heap.size := by have := hx.below.size; have := HR.out.blk.lt; omega
          have b1 : (b : Int) < (k : Int) := by omega
          have f1 : wr.frozen? ⟨gr, b * 2, none⟩ = false := (hx.below.frozen (p := ⟨gr, b * 2, none⟩) HR.out.blk.lt).trans (HR.out.blk.frozen _)
          have f2 : wr.frozen? ⟨gr, b * 2 + 1, none⟩ = false := (hx.below.frozen (p := ⟨gr, b * 2 + 1, none⟩) HR.out.blk.lt).trans (HR.out.blk.frozen _)
          have hne : g ≠ gr := (BF.out.ne HR.out.blk (by decide))
          have hbl : b < L.length := by rw [HL.out]; omega
          have RS := Lib.hid (((HR.out.ext hx).set b hbl ((nth L b).1 + n) ((nth L b).2 - n)).ext (((Ext.refl _).alloc (.cells #[.int .i64 (nth L b).1, .int .i64 (nth L b).2] 78)).drew))
          have BW := Lib.hid ((((BF.out.ext hx).far (p := ⟨gr, b * 2, none⟩) hne (.int .i64 ((nth L b).1 + n))).far (p := ⟨gr, b * 2 + 1, none⟩) hne (.int .i64 ((nth L b).2 - n))).ext (((Ext.refl _).alloc (.cells #[.int .i64 (nth L b).1, .int .i64 (nth L b).2] 78)).drew))
          have KW := Lib.hid (((((Keep.of_ext hx (· = gr)).setCell (p := ⟨gr, b * 2, none⟩) rfl (.int .i64 ((nth L b).1 + n))).setCell (p := ⟨gr, b * 2 + 1, none⟩) rfl (.int .i64 ((nth L b).2 - n)))).ext (((Ext.refl _).alloc (.cells #[.int .i64 (nth L b).1, .int .i64 (nth L b).2] 78)).drew))
          rw [HL.out] at BW
          have TK : Hid (takeAt L b n = if (nth L b).2 = n then L.eraseIdx b else L.set b ((nth L b).1 + n, (nth L b).2 - n)) := rfl
          have PE : Hid ((nth L b).1 = (nth L b).1) := rfl
          generalize hxx : nth L b = x at c1 c2 q1 q3 q4 RS BW KW TK hge
          have HX := Lib.hid hxx
          clear hxx
          by_cases hxn : x.2 = n
          · have e1 : (x.2 == n) = true := by simpa using hxn
            have HXN := Lib.hid hxn
            clear hxn
            unfold bI
            go_wp2
            go_region
            refine then_name (fun W hW => ?_)
            rw [← hW] at RS BW KW
            have cx := ((Blk.new ((wr.setCell ⟨gr, b * 2, none⟩ (.int .i64 (x.1 + n))).setCell ⟨gr, b * 2 + 1, none⟩ (.int .i64 (x.2 - n))) 78 #[.int .i64 x.1, .int .i64 x.2]).drew)
            rw [← hW] at cx
            rw [show ((wr.setCell ⟨gr, b * 2, none⟩ (.int .i64 (x.1 + n))).setCell ⟨gr, b * 2 + 1, none⟩ (.int .i64 (x.2 - n))).heap.size = wr.heap.size from by simp [World.setCell]] at cx
            obtain ⟨s1, s2, s3⟩ := cx.rules
            obtain ⟨t1, t2, t3⟩ := BW.out.rules
            obtain ⟨m, hm⟩ : ∃ m, k = b + 1 + m := ⟨k - (b + 1), by omega⟩
            have nG : wr.heap.size ≠ gr := by omega
            have nG2 : wr.heap.size ≠ g := by omega
            clear hW c1 c2 cv f1 f2
            subst hm
            go_wp2_with fail
            refine (delete RS.out (by rw [List.length_set, HL.out]) (by rw [List.length_set, HL.out]; omega)).mono ?_
            rintro e w2 ⟨rfl, ⟨cur', r2'⟩, k2⟩
            rw [erase_set] at r2'
            have B2 := BW.out.keep k2 hne
            obtain ⟨u1, u2, u3⟩ := B2.rules
            obtain ⟨v1, v2, v3⟩ := (cx.keep k2 nG).rules
            go_wp2_with fail
            go_ret2
            refine ⟨(fun hno => by rw [HN.out] at hno; cases hno), fun b' hb' => ?_⟩
            obtain rfl : b = b' := by rw [HN.out] at hb'; injection hb'
            have el : (L.eraseIdx b).length = b + m := by rw [List.length_eraseIdx, HL.out]; split <;> omega
            refine ⟨by rw [HX.out]; rfl, ⟨.slice (some ⟨gr, 0, none⟩) (b + m) cap, ?_⟩, ?_⟩
            · rw [TK.out, if_pos HXN.out]
              refine ⟨B2.set 1 _, ?_, by omega, fun r hr => HB.out r (List.mem_of_mem_eraseIdx hr)⟩
              have := (r2'.keep ((Keep.refl (· = g) w2).setCell (p := ⟨g, 1, none⟩) rfl (.slice (some ⟨gr, 0, none⟩) (b + m) cap)) (fun e => hne e.symm)).own hbase
              rw [el] at this ⊢
              exact this
            · exact ((KW.out.trans k2).mono (fun j hj => .inr (by rw [hj]; rfl))).setCell (p := ⟨g, 1, none⟩) (.inl rfl) _
          · have e1 : (x.2 == n) = false := by simpa using hxn
            have HXN := Lib.hid hxn
            have hlt2 : n < x.2 := by omega
            clear hxn
            unfold bI
            go_wp2
            go_region
            go_wp2
            go_ret2
            refine ⟨(fun hno => by rw [HN.out] at hno; cases hno), fun b' hb' => ?_⟩
            obtain rfl : b = b' := by rw [HN.out] at hb'; injection hb'
            refine ⟨by rw [HX.out]; rfl, ⟨.slice (some ⟨gr, 0, none⟩) k cap, ?_⟩, KW.out.mono (fun j hj => .inr (by rw [hj]; rfl))⟩
            rw [TK.out, if_neg HXN.out]
            have sl : (L.set b (x.1 + n, x.2 - n)).length = k := by rw [List.length_set, HL.out]
            refine ⟨BW.out, ?_, by omega, fun r hr => ?_⟩
            · have := RS.out.own hbase
              rw [sl] at this ⊢
              exact this
            · rcases List.mem_or_eq_of_mem_set hr with h' | h'
              · exact HB.out r h'
              · subst h'
                exact ⟨by show 0 ≤ x.1 + n; omega, by show 1 ≤ x.2 - n; omega, by show x.1 + n + (x.2 - n) ≤ 65536; omega⟩
end Go.Proofs.Ytjpalcejmloocaa.Free
