/-
  slices.Insert at runs (chapter 4).
-/
import Derived.Test.YtjpalcejmloocaaFree3
import Derived.Laws.IdiomCopy
import Derived.Lib.Overlaps
import Derived.Laws.Externs
import Derived.Lib.AppendZerosOnto
namespace Go.Proofs.Ytjpalcejmloocaa.Free
open Go.RowKit Go.Proofs.Ytjpalcejmloocaa.Plain
set_option linter.unusedVariables false

theorem run_copy2 (w : World) (ty : TypeId) (b o dLen dCap : Nat) (a : Addr) (sLen sCap m : Nat) (cs : List Value) (hm : Nat.min sLen dLen = m) (hn : cs.length = m * 2)
    (hsrc : ∀ j v, cs[j]? = some v → w.cell? (a.add j) = some v) (hc : ∀ j, j < cs.length → (w.cell? ⟨b, o + j, none⟩).isSome = true) (hf : ∀ j, j < cs.length → w.frozen? ⟨b, o + j, none⟩ = false) (h1 : ∀ v ∈ cs, v.oneCell' = true) :
    (Builtin.copy_ #[75, 75] ty #[.slice (some ⟨b, o, none⟩) dLen dCap, .slice (some a) sLen sCap]).run Try.prog w = .ok (goInt m) (w.setCells b o cs) := by
  have hl := run_loadCells_list (P := Try.prog) w a cs hsrc
  have hst := run_storeCells_cells (P := Try.prog) b o cs 0 w (by simpa using hc) (by simpa using hf) h1
  obtain ⟨i, hq, hz0, hz1, hz2⟩ := info_parts info2
  rw [hn] at hl
  simp [Builtin.copy_, run_underlying Try.underlying75, Builtin.lenOf, Builtin.firstCells, sizeOf, typeInfo, hq, hz1, hm, hl, hst]
theorem wpList_copy_runI {P : Program} (w : World) {ops : Array Oper} {rest : List Oper} {o : Oper} {a : Act} {Q : Exit → Act → World → Prop} (hgd : o.guard = none) (d s : Operand) (t t' : TypeId)
    (ho : o.op = .call { callee := .builtin .copy, args := #[d, s], argTypes := #[t, t'] }) (v u : Value) (hd : a.eval d = v) (hs : a.eval s = u) {v' : Value} {w' : World}
    (hr : (Builtin.copy_ #[t, t'] o.type #[v, u]).run P w = .ok v' w') (h : wpList P ops Q rest (a.put o.dst v') w') : wpList P ops Q (o :: rest) a w :=
  wpList_plain hgd fun _ hK => by
    unfold Oper.wp execOp
    simp only [ho, resolve, invoke, builtin, Sem.run_bind, Sem.run_pure, Result.andThen_ok, List.map_toArray, List.map_cons, List.map_nil, hd, hs, hr]
    exact hK _ _ h
theorem step_copy_runI {P : Program} {ops : Array Oper} {o : Oper} {a : Act} {w : World} {K : Act → World → Prop} {Q : Exit → Act → World → Prop} {E : Prop}
    (hg : o.guard = none) (d x : Operand) (dT sT : TypeId) (hop : o.op = Op.call { callee := Callee.builtin Builtin.copy, args := #[d, x], argTypes := #[dT, sT] })
    (v u : Value) (hd : a.eval d = v) (hx : a.eval x = u) {v' : Value} {w' : World} (hr : (Builtin.copy_ #[dT, sT] o.type #[v, u]).run P w = .ok v' w') (hK : K (a.put o.dst v') w') :
    if Region.wanted o (yielded ops a.tmps) = true then Oper.wp P o a w K Q else E := by
  have hw : Region.wanted o (yielded ops a.tmps) = true := by simp [Region.wanted, hg]
  rw [if_pos hw]
  unfold Oper.wp
  simp [execOp, hop, resolve, invoke, builtin, hd, hx, hr, Result.andThen]
  exact hK
theorem overlaps_no (w : World) (a b : Addr) (la ca lb cb : Nat) (hne : a.block ≠ b.block) (csA csB : Array Value) (hA : Blk w a.block 78 csA) (hB : Blk w b.block 78 csB) (hkB : csB.size ≠ 0) (ha : a.spot = none) :
    (callFunc 68 #[.slice (some a) la ca, .slice (some b) lb cb]).run Try.prog w = .ok (.value (.bool false)) w := by
  rw [run_callFunc_extern Try.func68 (by kernel_rfl) (by kernel_rfl) (by kernel_rfl) (e := Extern.SlicesOverlaps.overlaps #[75, 75] #[4]) (by kernel_rfl)]
  rw [Lib.run_overlaps_apart w 75 4 78 Try.underlying75 2 (fun _ => by kernel_rfl) a b la ca lb cb hne 78 78 csA.size csB.size (by
    unfold Blk at hA; simp [World.shape?, hA]) (by unfold Blk at hB; simp [World.shape?, hB]) hkB (by obtain ⟨ab, ao, asp⟩ := a; simp at ha; subst ha; exact hA.frozen _) (hA.frozen _)]
  rfl
def ins (L : List Run) (i : Nat) (r : Run) : List Run := L.take i ++ r :: L.drop i
theorem ins_len (L : List Run) (i : Nat) (r : Run) (h : i ≤ L.length) : (ins L i r).length = L.length + 1 := by unfold ins; simp; omega
theorem ins_at (L : List Run) (i : Nat) (r : Run) (h : i ≤ L.length) (j : Nat) : (ins L i r)[j]? = if j < i then L[j]? else if j = i then some r else L[j - 1]? := by
  unfold ins
  by_cases h1 : j < i
  · rw [if_pos h1, List.getElem?_append_left (by simp; omega), List.getElem?_take_of_lt h1]
  · rw [if_neg h1, List.getElem?_append_right (by simp; omega)]
    by_cases h2 : j = i
    · subst h2; rw [if_pos rfl]; simp [Nat.min_eq_left h]
    · rw [if_neg h2, List.length_take, Nat.min_eq_left h, show j - i = (j - 1 - i) + 1 from by omega, List.getElem?_cons_succ, List.getElem?_drop]
      congr 1; omega
theorem drop_at' (L : List Run) (i k : Nat) (u : Value) (h : ((cells2 L).drop (i * 2))[k]? = some u) : (cells2 L)[i * 2 + k]? = some u := by
  rw [List.getElem?_drop] at h; exact h
/-- what the two copies leave -/
theorem inserted {w w' : World} {g cap : Nat} {cur : Array Value} {L : List Run} {i : Nat} {x y : Int} (h : Rw w g cap cur L) (hi : i < L.length) (hroom : L.length + 1 ≤ cap)
    (hw : w' = ((w.setCells g ((i + 1) * 2) ((cells2 L).drop (i * 2))).setCells g (i * 2) [.int .i64 x, .int .i64 y])) : (∃ cur', Rw w' g cap cur' (ins L i (x, y))) ∧ Keep (· = g) w w' := by
  subst hw
  have hs := h.size
  have nl : ((cells2 L).drop (i * 2)).length = (L.length - i) * 2 := by rw [List.length_drop, cells2_len]; omega
  refine ⟨⟨_, blk_setCells (blk_setCells h.blk _ _) _ _, by rw [ins_len _ _ _ (by omega)]; exact hroom, h.capLe, ?_, ?_⟩, (keep_setCells _ _ _ _).trans (keep_setCells _ _ _ _)⟩
  · rw [setAll_size, setAll_size, hs]
  · intro j r hj
    rw [ins_at _ _ _ (by omega)] at hj
    have key : ∀ k, k < (L.length + 1) * 2 → (setAll (setAll cur ((i + 1) * 2) ((cells2 L).drop (i * 2))) (i * 2) [.int .i64 x, .int .i64 y])[k]? = if i * 2 ≤ k ∧ k < i * 2 + 2 then [Value.int .i64 x, .int .i64 y][k - i * 2]? else if (i + 1) * 2 ≤ k then ((cells2 L).drop (i * 2))[k - (i + 1) * 2]? else cur[k]? := fun k hk => by
      rw [setAll_at _ _ _ _ (by rw [setAll_size]; simp; omega)]
      simp only [List.length_cons, List.length_nil]
      by_cases h1 : i * 2 ≤ k ∧ k < i * 2 + (0 + 1 + 1)
      · rw [if_pos h1, if_pos (by omega)]
      · rw [if_neg h1, if_neg (by omega), setAll_at _ _ _ _ (by omega)]
        by_cases h2 : (i + 1) * 2 ≤ k
        · rw [if_pos (by omega), if_pos h2]
        · rw [if_neg (by omega), if_neg h2]
    have hjl : j < L.length + 1 := by
      by_cases h1 : j < i
      · omega
      · rw [if_neg h1] at hj
        by_cases h2 : j = i
        · omega
        · rw [if_neg h2] at hj
          have := (List.getElem?_eq_some_iff.1 hj).1
          omega
    rw [key _ (by omega), key _ (by omega)]
    by_cases h1 : j < i
    · rw [if_pos h1] at hj
      obtain ⟨b1, b2⟩ := h.at_ j r hj
      refine ⟨?_, ?_⟩
      · rw [if_neg (by omega), if_neg (by omega)]; exact b1
      · rw [if_neg (by omega), if_neg (by omega)]; exact b2
    · rw [if_neg h1] at hj
      by_cases h2 : j = i
      · rw [if_pos h2] at hj
        injection hj with hj
        subst h2
        rw [if_pos (by omega), if_pos (by omega), Nat.sub_self, show j * 2 + 1 - j * 2 = 1 from by omega, ← hj]
        exact ⟨rfl, rfl⟩
      · rw [if_neg h2] at hj
        obtain ⟨b1, b2⟩ := cells2_at L _ _ hj
        refine ⟨?_, ?_⟩
        · rw [if_neg (by omega), if_pos (by omega), List.getElem?_drop, show i * 2 + (j * 2 - (i + 1) * 2) = (j - 1) * 2 from by omega]
          exact b1
        · rw [if_neg (by omega), if_pos (by omega), List.getElem?_drop, show i * 2 + (j * 2 + 1 - (i + 1) * 2) = (j - 1) * 2 + 1 from by omega]
          exact b2
set_option maxRecDepth 100000 in
set_option maxHeartbeats 2000000 in
theorem insert_room {w : World} {g cap vb n : Nat} {cur : Array Value} {L : List Run} {i : Nat} {x y : Int} (h : Rw w g cap cur L) (hn : L.length = n) (hi : i < n) (hroom : n + 1 ≤ cap) (hl : n ≤ 100000) (hv : Blk w vb 78 #[.int .i64 x, .int .i64 y]) (hne : vb ≠ g) :
    Calls Try.prog 63 #[.slice (some ⟨g, 0, none⟩) n cap, .int .i64 i, .slice (some ⟨vb, 0, none⟩) 1 1] w fun e w' => e = .returned (.slice (some ⟨g, 0, none⟩) (n + 1) cap) ∧ (∃ cur', Rw w' g cap cur' (ins L i (x, y))) ∧ Keep (· = g) w w' := by
  have hcap := h.capLe
  unfold maxLen at hcap
  have hsz := h.size
  have nl : ((cells2 L).drop (i * 2)).length = (n - i) * 2 := by rw [List.length_drop, cells2_len, hn]; omega
  have hov : ∀ lb cb, (callFunc 68 #[.slice (some ⟨vb, 0, none⟩) 1 1, .slice (some ⟨g, (i + 1) * 2, none⟩) lb cb]).run Try.prog w = .ok (.value (.bool false)) w := fun lb cb =>
    overlaps_no w ⟨vb, 0, none⟩ ⟨g, (i + 1) * 2, none⟩ 1 1 lb cb hne _ _ hv h.blk (by omega) rfl
  have hcp1 : ∀ ty dc sc, (Builtin.copy_ #[75, 75] ty #[.slice (some ⟨g, (i + 1) * 2, none⟩) (n - i) dc, .slice (some ⟨g, i * 2, none⟩) (n + 1 - i) sc]).run Try.prog w.drew = .ok (goInt ((n - i : Nat) : Int)) (w.drew.setCells g ((i + 1) * 2) ((cells2 L).drop (i * 2))) := fun ty dc sc =>
    run_copy2 w.drew ty g ((i + 1) * 2) (n - i) dc ⟨g, i * 2, none⟩ (n + 1 - i) sc (n - i) _ (by simp only [Nat.min_def]; split <;> omega) nl
      (fun j v hj => by rw [Addr.add_lit]; exact h.drew.cells _ _ (drop_at' L i j v hj))
      (fun j hj => by rw [h.drew.blk.cell, Array.getElem?_eq_getElem (by omega)]; rfl) (fun j hj => h.drew.blk.frozen _) (fun v hv => cells2_one L v (List.mem_of_mem_drop hv))
  obtain ⟨W1, hW1⟩ : ∃ W1, W1 = w.drew.setCells g ((i + 1) * 2) ((cells2 L).drop (i * 2)) := ⟨_, rfl⟩
  have B1 : Blk W1 g 78 (setAll cur ((i + 1) * 2) ((cells2 L).drop (i * 2))) := by rw [hW1]; exact blk_setCells h.drew.blk _ _
  have V1 : Blk W1 vb 78 #[.int .i64 x, .int .i64 y] := by rw [hW1]; exact hv.drew.keep (keep_setCells _ _ _ _) hne
  have hcp2 : ∀ ty dc, (Builtin.copy_ #[75, 75] ty #[.slice (some ⟨g, i * 2, none⟩) (n + 1 - i) dc, .slice (some ⟨vb, 0, none⟩) 1 1]).run Try.prog W1 = .ok (goInt 1) (W1.setCells g (i * 2) [.int .i64 x, .int .i64 y]) := fun ty dc =>
    run_copy2 W1 ty g (i * 2) (n + 1 - i) dc ⟨vb, 0, none⟩ 1 1 1 _ (by simp only [Nat.min_def]; split <;> omega) rfl
      (fun j v hj => by
        rw [Addr.add_lit, Nat.zero_add, V1.cell]; simpa using hj)
      (fun j hj => by simp at hj; rw [B1.cell, Array.getElem?_eq_getElem (by rw [setAll_size]; omega)]; rfl) (fun j hj => B1.frozen _) (by simp [Value.oneCell'])
  have FIN : Hid ((∃ cur', Rw (W1.setCells g (i * 2) [.int .i64 x, .int .i64 y]) g cap cur' (ins L i (x, y))) ∧ Keep (· = g) w (W1.setCells g (i * 2) [.int .i64 x, .int .i64 y])) := by
    obtain ⟨a1, a2⟩ := inserted (i := i) (x := x) (y := y) h.drew (by omega) (by omega) rfl
    rw [hW1]
    exact Lib.hid ⟨a1, (Keep.refl _ w).drew.trans a2⟩
  rw [← hW1] at hcp1
  have d1 : ((i : Int) == (n : Int)) = false := by rw [beq_eq_false_iff_ne]; omega
  have d2 : decide ((cap : Int) < (n : Int) + 1) = false := by simp; omega
  have e1 : ¬ (cap = i + 1) := by omega
  have e2 : ¬ (cap = i) := by omega
  have e3 : ((i : Int) + 1).toNat = i + 1 := by omega
  have e4 : (0 : Int) ≤ (i : Int) + 1 := by omega
  have e5 : (i : Int) + 1 ≤ (n : Int) + 1 := by omega
  have e6 : (i : Int) ≤ (n : Int) + 1 := by omega
  have e7 : i ≤ n := by omega
  have e8 : IntKind.i64.wrap ((i : Int) + 1) = (i : Int) + 1 := IntWalk.i64_in _ (by omega)
  clear B1 V1 hW1 hv h nl hsz hn
  go_enter Try.func63, Try.ntmps63
  go_wp2_with (simp only [hov])
  go_region_law (refine step_copy_runI rfl _ _ 75 75 rfl _ _ (by simp [Act.eval, Act.put]) (by simp [Act.eval, Act.put]) (hcp1 _ _ _) ?_)
  clear e8 hcp1 hov
  go_wp2_with (refine wpList_copy_runI _ rfl _ _ 75 75 rfl _ _ rfl rfl (hcp2 _ _) ?_)
  go_ret
  exact ⟨rfl, FIN.out⟩
def InsPost (w : World) (base : Nat) (v : Value) (L : List Run) (e : Ending) (w' : World) : Prop :=
  ∃ v', e = .returned v' ∧ w'.ownsRow base 78 2 v' L.length (cells2 L) ∧ Keep (fun k => v.ownBlock = some k) w w'
theorem own_form {w : World} {base : Nat} {e : TypeId} {size : Nat} {v : Value} {n : Nat} {xs : List Value} (h : w.ownsRow base e size v n xs) : ∃ A c, v = .slice A n c ∧ n ≤ c ∧ c ≤ maxLen := by
  rcases h.2 with ⟨rfl, rfl⟩ | ⟨g, cap, cur, rfl, _, _, h1, h2, _⟩
  · exact ⟨none, 0, rfl, Nat.le_refl _, Nat.zero_le _⟩
  · exact ⟨_, _, rfl, h1, h2⟩
theorem cells2_app (L : List Run) (r : Run) : cells2 (L ++ [r]) = cells2 L ++ [.int .i64 r.1, .int .i64 r.2] := by simp [cells2]
theorem news2 {w : World} {vb : Nat} {x y : Value} (hv : Blk w vb 78 #[x, y]) : ∀ j u, [x, y][j]? = some u → w.cell? ((⟨vb, 0, none⟩ : Addr).add j) = some u := by
  intro j u h
  rw [Addr.add_lit, Nat.zero_add, hv.cell]
  simpa using h
set_option maxRecDepth 100000 in
set_option maxHeartbeats 2000000 in
theorem insert_end_eq {w : World} {base vb n c : Nat} {A : Option Addr} {L : List Run} {x y : Int} (h : w.ownsRow base 78 2 (.slice A n n) n (cells2 L)) (hn : L.length = n) (hl : n ≤ 100000) (hv : Blk w vb 78 #[.int .i64 x, .int .i64 y]) (hb : base ≤ w.heap.size) :
    Calls Try.prog 63 #[.slice A n n, .int .i64 n, .slice (some ⟨vb, 0, none⟩) 1 1] w (InsPost w base (.slice A n n) (L ++ [(x, y)])) := by
  obtain ⟨i0, hi0, hz0, hz1, hz2⟩ := info_parts info2
  have HN := Lib.hid hn
  have HV := Lib.hid hv
  have HO := Lib.hid h
  have d1 : ((n : Int) == (n : Int)) = true := by simp
  clear hn hv h
  go_enter Try.func63, Try.ntmps63
  go_wp2_with (at_builtin; refine wpList_append_own _ rfl _ _ 75 rfl base 78 i0 (.agg #[.int .i64 0, .int .i64 0]) 2 16 Try.underlying75 hi0 hz0 hz1 hz2 rfl (by decide) _ _ _ rfl HO.out ⟨vb, 0, none⟩ 1 1 [.int .i64 x, .int .i64 y] rfl rfl (news2 HV.out) ?c2 ?c3 ?c4 hb ?_)
  case c2 => simp [Value.oneCell']
  case c3 => unfold maxLen; omega
  case c4 => omega
  intro v' w3 o3 g3 _
  go_wp2
  go_ret
  refine ⟨v', rfl, ?_, ⟨g3.os, g3.tape, g3.output, g3.size, fun k hk hn => g3.block k hk (fun e => hn e.symm)⟩⟩
  rw [cells2_app, List.length_append, HN.out]
  exact o3
set_option maxRecDepth 100000 in
set_option maxHeartbeats 2000000 in
theorem insert_end_ne {w : World} {base vb n c : Nat} {A : Option Addr} {L : List Run} {x y : Int} (h : w.ownsRow base 78 2 (.slice A n c) n (cells2 L)) (hn : L.length = n) (hl : n ≤ 100000) (hc : n < c) (hcm : c ≤ 9223372036854775807) (hcn : ¬ c = n) (hv : Blk w vb 78 #[.int .i64 x, .int .i64 y]) (hb : base ≤ w.heap.size) :
    Calls Try.prog 63 #[.slice A n c, .int .i64 n, .slice (some ⟨vb, 0, none⟩) 1 1] w (InsPost w base (.slice A n c) (L ++ [(x, y)])) := by
  obtain ⟨i0, hi0, hz0, hz1, hz2⟩ := info_parts info2
  have HN := Lib.hid hn
  have HV := Lib.hid hv
  have HO := Lib.hid h
  have d1 : ((n : Int) == (n : Int)) = true := by simp
  clear hn hv h
  go_enter Try.func63, Try.ntmps63
  go_wp2_with (at_builtin; refine wpList_append_own _ rfl _ _ 75 rfl base 78 i0 (.agg #[.int .i64 0, .int .i64 0]) 2 16 Try.underlying75 hi0 hz0 hz1 hz2 rfl (by decide) _ _ _ rfl HO.out ⟨vb, 0, none⟩ 1 1 [.int .i64 x, .int .i64 y] rfl rfl (news2 HV.out) ?c2 ?c3 ?c4 hb ?_)
  case c2 => simp [Value.oneCell']
  case c3 => unfold maxLen; omega
  case c4 => omega
  intro v' w3 o3 g3 _
  go_wp2
  go_ret
  refine ⟨v', rfl, ?_, ⟨g3.os, g3.tape, g3.output, g3.size, fun k hk hn => g3.block k hk (fun e => hn e.symm)⟩⟩
  rw [cells2_app, List.length_append, HN.out]
  exact o3
theorem insert_end {w : World} {base vb n : Nat} {v : Value} {L : List Run} {x y : Int} (h : w.ownsRow base 78 2 v L.length (cells2 L)) (hn : L.length = n) (hl : n ≤ 100000) (hv : Blk w vb 78 #[.int .i64 x, .int .i64 y]) (hb : base ≤ w.heap.size) :
    Calls Try.prog 63 #[v, .int .i64 n, .slice (some ⟨vb, 0, none⟩) 1 1] w (InsPost w base v (L ++ [(x, y)])) := by
  obtain ⟨A, c, rfl, hnc, hcm⟩ := own_form h
  rw [hn] at h hnc ⊢
  unfold maxLen at hcm
  by_cases hcn : c = n
  · subst hcn; exact insert_end_eq (c := 0) h hn hl hv hb
  · exact insert_end_ne h hn hl (by omega) (by omega) hcn hv hb
end Go.Proofs.Ytjpalcejmloocaa.Free
