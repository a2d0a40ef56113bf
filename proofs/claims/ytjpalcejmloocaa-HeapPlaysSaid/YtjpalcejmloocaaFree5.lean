/-
  slices.Insert at runs (chapter 4): no room.
-/
import Derived.Test.YtjpalcejmloocaaFree4
namespace Go.Proofs.Ytjpalcejmloocaa.Free
open Go.RowKit Go.Proofs.Ytjpalcejmloocaa.Plain
set_option linter.unusedVariables false

def zz : Value := .agg #[.int .i64 0, .int .i64 0]
theorem zc_size (k : Nat) : (Builtin.zeroCells zz.cells k).size = k * 2 := by
  have : zz.cells = #[.int .i64 0, .int .i64 0] := rfl
  simp [Builtin.zeroCells, this]
/-- the new row, before the copies -/
def row0 (L : List Run) (i n C : Nat) : Array Value := ((cells2 L).take (i * 2)).toArray ++ Builtin.zeroCells zz.cells (n + 1 - i) ++ Builtin.zeroCells zz.cells (C - (i + (n + 1 - i)))
theorem row0_size {L : List Run} {i n C : Nat} (hn : L.length = n) (hi : i < n) (hC : n + 1 ≤ C) : (row0 L i n C).size = C * 2 := by
  unfold row0
  rw [Array.size_append, Array.size_append, zc_size, zc_size]
  simp [cells2_len, hn]
  omega
theorem row0_at {L : List Run} {i n C : Nat} (hn : L.length = n) (hi : i < n) (k : Nat) (hk : k < i * 2) : (row0 L i n C)[k]? = (cells2 L)[k]? := by
  unfold row0
  have hl : ((cells2 L).take (i * 2)).length = i * 2 := by rw [List.length_take, cells2_len, hn]; omega
  rw [Array.getElem?_append_left (by rw [Array.size_append]; simp only [List.size_toArray, hl]; omega), Array.getElem?_append_left (by simp only [List.size_toArray, hl]; exact hk)]
  simp only [List.getElem?_toArray]
  rw [List.getElem?_take_of_lt hk]
theorem grown_row {w W1 W2 : World} {NB C n : Nat} {L : List Run} {i : Nat} {x y : Int} (hn : L.length = n) (hi : i < n) (hC : n + 1 ≤ C) (hCm : C ≤ maxLen) (hB : Blk w NB 78 (row0 L i n C))
    (h1 : W1 = w.setCells NB (i * 2) [.int .i64 x, .int .i64 y]) (h2 : W2 = W1.drew.setCells NB ((i + 1) * 2) ((cells2 L).drop (i * 2))) : ∃ cur', Rw W2 NB C cur' (ins L i (x, y)) := by
  subst h1; subst h2
  have hs := row0_size hn hi hC
  have nl : ((cells2 L).drop (i * 2)).length = (n - i) * 2 := by rw [List.length_drop, cells2_len, hn]; omega
  refine ⟨_, blk_setCells (blk_setCells hB _ _).drew _ _, by rw [ins_len _ _ _ (by omega), hn]; exact hC, hCm, by rw [setAll_size, setAll_size, hs], ?_⟩
  intro j r hj
  rw [ins_at _ _ _ (by omega)] at hj
  have key : ∀ k, k < (n + 1) * 2 → (setAll (setAll (row0 L i n C) (i * 2) [.int .i64 x, .int .i64 y]) ((i + 1) * 2) ((cells2 L).drop (i * 2)))[k]? = if (i + 1) * 2 ≤ k then ((cells2 L).drop (i * 2))[k - (i + 1) * 2]? else if i * 2 ≤ k then [Value.int .i64 x, .int .i64 y][k - i * 2]? else (cells2 L)[k]? := fun k hk => by
    rw [setAll_at _ _ _ _ (by rw [setAll_size]; omega)]
    by_cases h1 : (i + 1) * 2 ≤ k
    · rw [if_pos (by omega), if_pos h1]
    · rw [if_neg (by omega), if_neg h1, setAll_at _ _ _ _ (by simp; omega)]
      simp only [List.length_cons, List.length_nil]
      by_cases h2 : i * 2 ≤ k
      · rw [if_pos (by omega), if_pos h2]
      · rw [if_neg (by omega), if_neg h2, row0_at hn hi k (by omega)]
  have hjl : j < n + 1 := by
    by_cases h1 : j < i
    · omega
    · rw [if_neg h1] at hj
      by_cases h2 : j = i
      · omega
      · rw [if_neg h2] at hj
        have := (List.getElem?_eq_some_iff.1 hj).1
        omega
  rw [key _ (by omega), key _ (by omega)]
  by_cases h1 : j < i
  · rw [if_pos h1] at hj
    obtain ⟨b1, b2⟩ := cells2_at L _ _ hj
    refine ⟨?_, ?_⟩
    · rw [if_neg (by omega), if_neg (by omega)]; exact b1
    · rw [if_neg (by omega), if_neg (by omega)]; exact b2
  · rw [if_neg h1] at hj
    by_cases h2 : j = i
    · rw [if_pos h2] at hj
      injection hj with hj
      subst h2
      refine ⟨?_, ?_⟩
      · rw [if_neg (by omega), if_pos (by omega), Nat.sub_self, ← hj]; rfl
      · rw [if_neg (by omega), if_pos (by omega), show j * 2 + 1 - j * 2 = 1 from by omega, ← hj]; rfl
    · rw [if_neg h2] at hj
      obtain ⟨b1, b2⟩ := cells2_at L _ _ hj
      refine ⟨?_, ?_⟩
      · rw [if_pos (by omega), List.getElem?_drop, show i * 2 + (j * 2 - (i + 1) * 2) = (j - 1) * 2 from by omega]
        exact b1
      · rw [if_pos (by omega), List.getElem?_drop, show i * 2 + (j * 2 + 1 - (i + 1) * 2) = (j - 1) * 2 + 1 from by omega]
        exact b2
theorem first_cells {w : World} {g cap : Nat} {cur : Array Value} {L : List Run} {i n : Nat} (h : Rw w g cap cur L) (hn : L.length = n) (hi : i < n) :
    (Builtin.firstCells 2 i (.slice (some ⟨g, 0, none⟩) i cap)).run Try.prog w = .ok ((cells2 L).take (i * 2)).toArray w := by
  have hl : ((cells2 L).take (i * 2)).length = i * 2 := by rw [List.length_take, cells2_len, hn]; omega
  have := run_loadCells_list (P := Try.prog) w ⟨g, 0, none⟩ ((cells2 L).take (i * 2)) (fun j v hj => by
    rw [Addr.add_lit, Nat.zero_add]
    have hjl : j < i * 2 := by have := (List.getElem?_eq_some_iff.1 hj).1; omega
    rw [List.getElem?_take_of_lt hjl] at hj
    exact h.cells j v hj)
  rw [hl] at this
  simp [Builtin.firstCells, this]
set_option maxRecDepth 100000 in
set_option maxHeartbeats 2000000 in
theorem insert_grow {w : World} {base g cap vb n : Nat} {cur : Array Value} {L : List Run} {i : Nat} {x y : Int} (h : Rw w g cap cur L) (hn : L.length = n) (hi : i < n) (hroom : cap < n + 1) (hl : n ≤ 100000) (hv : Blk w vb 78 #[.int .i64 x, .int .i64 y]) (hb : base ≤ w.heap.size) :
    Calls Try.prog 63 #[.slice (some ⟨g, 0, none⟩) n cap, .int .i64 i, .slice (some ⟨vb, 0, none⟩) 1 1] w (InsPost w base (.slice (some ⟨g, 0, none⟩) n cap) (ins L i (x, y))) := by
  obtain ⟨i0, hi0, hz0, hz1, hz2⟩ := info_parts info2
  have hle := h.le
  rw [hn] at hle
  obtain rfl : cap = n := by omega
  have hold : (Builtin.firstCells i0.size i (.slice (some ⟨g, 0, none⟩) i cap)).run Try.prog w.drew = .ok ((cells2 L).take (i * 2)).toArray w.drew := by rw [hz1]; exact first_cells h.drew hn hi
  obtain ⟨C, hC⟩ : ∃ C, C = grownCap w (i + (cap + 1 - i)) cap 78 := ⟨_, rfl⟩
  have hC1 : cap + 1 ≤ C := by have := grownCap_ge w (i + (cap + 1 - i)) cap 78; omega
  have hC2 : C ≤ maxLen := by rw [hC]; exact grownCap_le_maxLen w _ _ _ (by unfold maxLen; omega)
  have ce : ((cap + 1 - i : Nat) : Int) = (cap : Int) + 1 - (i : Int) := by omega
  have happ : ∀ ty, (Builtin.append_ #[75, 3] ty #[.slice (some ⟨g, 0, none⟩) i cap, .int .i64 ((cap : Int) + 1 - (i : Int))]).run Try.prog w = .ok (.slice (some ⟨w.heap.size, 0, none⟩) (cap + 1) C) (w.drew.alloc (.cells (row0 L i cap C) 78)) := fun ty => by
    have := Lib.run_append_grow_zeros w 75 3 ty 78 i0 zz .i64 .i64 Try.underlying75 Try.underlying3 hi0 hz0 (some ⟨g, 0, none⟩) i cap _ hold (cap + 1 - i) (by omega) (by omega) (by omega) (by omega) (by rw [hz2]; omega) (growslice_fits (by omega) (by rw [hz2]; omega))
    rw [ce, ← hC] at this
    rw [this, show i + (cap + 1 - i) = cap + 1 from by omega]
    unfold row0
    rw [show i + (cap + 1 - i) = cap + 1 from by omega]
  have hs := row0_size hn hi hC1
  obtain ⟨W0, hW0⟩ : ∃ W0, W0 = w.drew.alloc (.cells (row0 L i cap C) 78) := ⟨_, rfl⟩
  have B0 : Blk W0 w.heap.size 78 (row0 L i cap C) := by rw [hW0]; exact Blk.new w.drew _ _
  have V0 : Blk W0 vb 78 #[.int .i64 x, .int .i64 y] := by rw [hW0]; exact hv.drew.alloc _
  have R0 : Rw W0 g cap cur L := by rw [hW0]; exact h.drew.ext ((Ext.refl _).alloc _)
  have X0 : Ext w W0 := by rw [hW0]; exact ((Ext.refl w).drew).alloc _
  rw [← hW0] at happ
  have hgn : g ≠ w.heap.size := by have := h.blk.lt; omega
  have hvn : vb ≠ w.heap.size := by have := hv.lt; omega
  generalize hNB : w.heap.size = NB at happ B0 hgn hvn hb
  have hcp1 : ∀ ty dc, (Builtin.copy_ #[75, 75] ty #[.slice (some ⟨NB, i * 2, none⟩) (cap + 1 - i) dc, .slice (some ⟨vb, 0, none⟩) 1 1]).run Try.prog W0 = .ok (goInt 1) (W0.setCells NB (i * 2) [.int .i64 x, .int .i64 y]) := fun ty dc =>
    run_copy2 W0 ty NB (i * 2) (cap + 1 - i) dc ⟨vb, 0, none⟩ 1 1 1 _ (by simp only [Nat.min_def]; split <;> omega) rfl (news2 V0)
      (fun j hj => by simp at hj; rw [B0.cell, Array.getElem?_eq_getElem (by omega)]; rfl) (fun j hj => B0.frozen _) (by simp [Value.oneCell'])
  obtain ⟨W1, hW1⟩ : ∃ W1, W1 = W0.setCells NB (i * 2) [.int .i64 x, .int .i64 y] := ⟨_, rfl⟩
  have B1 : Blk W1 NB 78 (setAll (row0 L i cap C) (i * 2) [.int .i64 x, .int .i64 y]) := by rw [hW1]; exact blk_setCells B0 _ _
  have R1 : Rw W1 g cap cur L := by rw [hW1]; exact R0.keep (keep_setCells _ _ _ _) hgn
  have nl : ((cells2 L).drop (i * 2)).length = (cap - i) * 2 := by rw [List.length_drop, cells2_len, hn]; omega
  rw [← hW1] at hcp1
  have hcp2 : ∀ ty dc sc, (Builtin.copy_ #[75, 75] ty #[.slice (some ⟨NB, (i + 1) * 2, none⟩) (cap - i) dc, .slice (some ⟨g, i * 2, none⟩) (cap - i) sc]).run Try.prog W1.drew = .ok (goInt ((cap - i : Nat) : Int)) (W1.drew.setCells NB ((i + 1) * 2) ((cells2 L).drop (i * 2))) := fun ty dc sc =>
    run_copy2 W1.drew ty NB ((i + 1) * 2) (cap - i) dc ⟨g, i * 2, none⟩ (cap - i) sc (cap - i) _ (by simp only [Nat.min_def]; split <;> omega) nl
      (fun j v hj => by rw [Addr.add_lit]; exact R1.drew.cells _ _ (drop_at' L i j v hj))
      (fun j hj => by rw [B1.drew.cell, Array.getElem?_eq_getElem (by rw [setAll_size]; omega)]; rfl) (fun j hj => B1.drew.frozen _) (fun v hv => cells2_one L v (List.mem_of_mem_drop hv))
  obtain ⟨W2, hW2⟩ : ∃ W2, W2 = W1.drew.setCells NB ((i + 1) * 2) ((cells2 L).drop (i * 2)) := ⟨_, rfl⟩
  rw [← hW2] at hcp2
  have FIN : Hid (InsPost w base (.slice (some ⟨g, 0, none⟩) cap cap) (ins L i (x, y)) (.returned (.slice (some ⟨NB, 0, none⟩) (cap + 1) C)) W2) := by
    obtain ⟨cur', hr⟩ := grown_row hn hi hC1 hC2 B0 hW1 hW2
    have ho := hr.own (base := base) hb
    rw [ins_len _ _ _ (by omega), hn] at ho
    refine ⟨_, rfl, by rw [ins_len _ _ _ (by omega), hn]; exact ho, Keep.of_ext ?_ _⟩
    have k1 : Keep (· = NB) w W2 := by
      rw [hW2, hW1]
      exact ((((Keep.of_ext X0 (· = NB)).trans (keep_setCells _ _ _ _)).drew).trans (keep_setCells _ _ _ _))
    exact k1.toExt (fun k hk e => by omega)
  have d1 : ((i : Int) == (cap : Int)) = false := by rw [beq_eq_false_iff_ne]; omega
  have d2 : decide ((cap : Int) < (cap : Int) + 1) = true := by simp; omega
  unfold maxLen at hC2
  have e1 : ¬ (C = i + 1) := by omega
  have e2 : ¬ (C = i) := by omega
  have e2' : ¬ (cap = i) := by omega
  have e3 : ((i : Int) + 1).toNat = i + 1 := by omega
  have e4 : (0 : Int) ≤ (i : Int) + 1 := by omega
  have e5 : (i : Int) + 1 ≤ (cap : Int) + 1 := by omega
  have e6 : (i : Int) ≤ (cap : Int) + 1 := by omega
  have e7 : i ≤ cap := by omega
  have e8 : IntKind.i64.wrap ((i : Int) + 1) = (i : Int) + 1 := IntWalk.i64_in _ (by omega)
  clear B0 B1 R0 R1 V0 X0 hW0 hW1 hW2 hv h nl hs hn hold hC ce hNB
  go_enter Try.func63, Try.ntmps63
  go_wp2_with (at_builtin; refine Lib.wpList_append_run _ rfl _ _ _ _ rfl _ _ rfl rfl _ _ (happ _) ?_)
  go_region_law (refine step_copy_runI rfl _ _ 75 75 rfl _ _ (by simp [Act.eval, Act.put]) (by simp [Act.eval, Act.put]) (hcp2 _ _ _) ?_)
  go_wp2
  go_ret
  exact FIN.out
theorem ins_end (L : List Run) (r : Run) : ins L L.length r = L ++ [r] := by unfold ins; simp
theorem insert {w : World} {base vb : Nat} {v : Value} {L : List Run} {i : Nat} {x y : Int} (h : w.ownsRow base 78 2 v L.length (cells2 L)) (hi : i ≤ L.length) (hl : L.length ≤ 100000) (hv : Blk w vb 78 #[.int .i64 x, .int .i64 y]) (hb : base ≤ w.heap.size) (hvb : v.ownBlock ≠ some vb) :
    Calls Try.prog 63 #[v, .int .i64 i, .slice (some ⟨vb, 0, none⟩) 1 1] w (InsPost w base v (ins L i (x, y))) := by
  by_cases he : i = L.length
  · subst he
    rw [ins_end]
    exact insert_end h rfl hl hv hb
  · rcases own_rw h with ⟨rfl, rfl⟩ | ⟨g, cap, cur, rfl, hbase, hr⟩
    · simp at hi; subst hi; exact absurd rfl he
    · by_cases hroom : L.length + 1 ≤ cap
      · have hne : vb ≠ g := fun e => hvb (by rw [e]; rfl)
        refine (insert_room hr rfl (by omega) hroom hl hv hne).mono ?_
        rintro e w' ⟨rfl, ⟨cur', r'⟩, k'⟩
        have ho := r'.own hbase
        rw [ins_len _ _ _ hi] at ho
        exact ⟨_, rfl, by rw [ins_len _ _ _ hi]; exact ho, k'.mono (fun j hj => by rw [hj]; rfl)⟩
      · exact insert_grow hr rfl (by omega) (by omega) hl hv hb
end Go.Proofs.Ytjpalcejmloocaa.Free
