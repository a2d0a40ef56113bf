/-
  slices.Concat of some values and none: the same values in new memory.
-/
import Derived.Test.YtnhijjcplnomgaaGreatFirst
import Derived.Lib.AppendZerosOnto
import Derived.Lib.SliceRun
namespace Go.Proofs.YtnhijjcplnomgaaGreat.World
open Go.RowKit Go.Proofs.YtnhijjcplnomgaaGreat.Plain
set_option linter.unusedVariables false
attribute [local go_sem ↓] Go.wp_at_zero Go.wp_at_succ

theorem zvc_size (k : Nat) : (Builtin.zeroCells (Value.agg #[.bool false, .int .i64 0]).cells k).size = k * 2 := by
  have : (Value.agg #[.bool false, .int .i64 0]).cells.size = 2 := by kernel_rfl
  simp [Builtin.zeroCells, this]
set_option maxRecDepth 100000 in
set_option maxHeartbeats 1000000 in
theorem grow0 (n : Nat) (h0 : 0 < n) (hn : n ≤ 100000) (w : World) : Calls Tryz.prog 123 #[.slice none 0 0, .int .i64 n] w fun e w' => ∃ C, e = .returned (.slice (some ⟨w.heap.size, 0, none⟩) 0 C) ∧ (∃ cur, Blk w' w.heap.size 40 cur ∧ cur.size = C * 2) ∧ C ≤ maxLen ∧ Ext w w' := by
  obtain ⟨iV, iV1, iV2, iV3, iV4⟩ := info_parts infoV
  have hold : (Builtin.firstCells iV.size 0 (.slice none 0 0)).run Tryz.prog w.drew = .ok ([] : List Value).toArray w.drew := run_firstCells_none w.drew iV.size 0 0 0
  have rg := fun ty => Lib.run_append_grow_zeros (P := Tryz.prog) w 42 3 ty 40 iV (.agg #[.bool false, .int .i64 0]) .i64 .i64 Tryz.underlying42 Tryz.underlying3 iV1 iV2 none 0 0 [] hold n h0 (by rw [iV3]; omega) (by omega) (by omega) (by rw [iV4]; omega) (growslice_fits (by omega) (by rw [iV4]; omega))
  simp only [Nat.zero_add] at rg
  obtain ⟨C, hC⟩ : ∃ C, C = grownCap w n 0 40 := ⟨_, rfl⟩
  have hC1 : n ≤ C := by have := grownCap_ge w n 0 40; omega
  have hC2 : C ≤ maxLen := by rw [hC]; exact grownCap_le_maxLen w _ _ _ (by unfold maxLen; omega)
  simp only [← hC] at rg
  obtain ⟨cur, hcur⟩ : ∃ cur, cur = (([] : List Value).toArray ++ Builtin.zeroCells (Value.agg #[.bool false, .int .i64 0]).cells n ++ Builtin.zeroCells (Value.agg #[.bool false, .int .i64 0]).cells (C - n)) := ⟨_, rfl⟩
  have hsz : cur.size = C * 2 := by rw [hcur]; simp [zvc_size]; omega
  simp only [← hcur] at rg
  clear hcur hC iV1 iV2 iV3 iV4 hold
  have gt : (0 : Int) < (n : Int) := by omega
  have HS := Lib.hid hsz
  have H2 := Lib.hid hC2
  unfold maxLen at hC2
  go_enter Tryz.func123, Tryz.ntmps123
  go_wp2_with (at_builtin; refine Lib.wpList_append_run _ rfl _ _ _ _ rfl _ _ rfl rfl _ _ (rg _) ?_)
  go_ret
  exact ⟨C, rfl, ⟨cur, Blk.new _ _ _, HS.out⟩, H2.out, is_ext _ _⟩
theorem own_zero {w : World} {b g C sz : Nat} {e : TypeId} {cur : Array Value} {c : Nat → Nat → Value} (hb : Blk w g e cur) (hs : cur.size = C * sz) (hC : C ≤ maxLen) (hg : b ≤ g) : Own w b e (.slice (some ⟨g, 0, none⟩) 0 C) 0 sz c := by
  refine ⟨flat_len _ _ _, .inr ⟨g, C, cur, rfl, hg, hb, Nat.zero_le _, hC, hs, ?_⟩⟩
  rw [Nat.zero_mul, List.take_zero]
  unfold flat; simp
set_option maxRecDepth 100000 in
set_option maxHeartbeats 1000000 in
theorem concat1 {w : World} {g n : Nat} {v1 : Value} {c : Nat → Nat → Value} (hb : Blk w g 42 #[v1, .slice none 0 0]) (h1 : Row w v1 n 2 c) (hc1 : ∀ i j, (c i j).oneCell' = true) (h0 : 0 < n) (hn : n ≤ 100000) :
    Calls Tryz.prog 90 #[.slice (some ⟨g, 0, none⟩) 2 2] w fun e w' => ∃ v, e = .returned v ∧ Own w' w.heap.size 40 v n 2 c ∧ Ext w w' := by
  obtain ⟨iV, iV1, iV2, iV3, iV4⟩ := info_parts infoV
  obtain ⟨A1, cp1, rfl, _, _⟩ := h1.form
  have HR := Lib.hid h1
  have HB := Lib.hid hb
  have HC := Lib.hid hc1
  obtain ⟨q1, q2, q3⟩ := hb.rules
  have HG := Lib.hid (fun W => @grow0 n h0 hn W)
  have gt : (0 : Int) < (n : Int) := by omega
  clear hb h1 hc1
  go_enter Tryz.func90, Tryz.ntmps90
  go_wp2_with fail
  go_loopw [3, 11] (fun s iv wr => ((iv = .int .i64 0 ∧ s = .int .i64 0) ∨ (iv = .int .i64 1 ∧ s = .int .i64 n) ∨ (iv = .int .i64 2 ∧ s = .int .i64 n)) ∧ w = wr) (fun s iv _ => 2 - (intOf iv).toNat)
  case atStart => exact ⟨.inl ⟨rfl, rfl⟩, rfl⟩
  case round =>
    obtain ⟨hr, rfl⟩ := hrel
    rcases hr with ⟨rfl, rfl⟩ | ⟨rfl, rfl⟩ | ⟨rfl, rfl⟩
    · go_wp2_with fail
      go_roundw
      case rel => exact ⟨.inr (.inl ⟨rfl, rfl⟩), trivial⟩
      case measure => simp [intOf]
    · go_wp2_with fail
      go_roundw
      case rel => exact ⟨.inr (.inr ⟨rfl, rfl⟩), trivial⟩
      case measure => simp [intOf]
    · go_wp2_with fail
      refine (HG.out _).mono ?_
      rintro e w2 ⟨C, rfl, ⟨cur, bc, hs⟩, hC, x2⟩
      have i2 : IsExt w w2 := ⟨x2⟩
      obtain ⟨r1, r2, r3⟩ := (HB.out.ext x2).rules
      have O2 : Hid (Own w2 w.heap.size 40 (.slice (some ⟨w.heap.size, 0, none⟩) 0 C) 0 2 c) := Lib.hid (own_zero bc hs hC (Nat.le_refl _))
      have HB2 := Lib.hid (HB.out.ext x2)
      clear bc hs hC x2 HG
      go_wp2_with fail
      go_loopw [6, 27] (fun s iv ws => ((iv = .int .i64 0 ∧ w2 = ws ∧ s = .slice (some ⟨w.heap.size, 0, none⟩) 0 C) ∨ ((iv = .int .i64 1 ∨ iv = .int .i64 2) ∧ Ext w ws ∧ Own ws w.heap.size 40 s n 2 c))) (fun s iv _ => 2 - (intOf iv).toNat)
      case atStart => exact .inl ⟨rfl, rfl, rfl⟩
      case round =>
        rcases hrel with ⟨rfl, rfl, rfl⟩ | ⟨h12, xs, os⟩
        · obtain ⟨b0, off0, e0, hb0, _⟩ := Row.at_ HR.out 0 h0
          subst e0
          have NW : Hid (∀ q u, (flat n 2 c)[q]? = some u → w2.cell? ((⟨b0, off0, none⟩ : Addr).add q) = some u) := Lib.hid (HR.out.ext i2.out).news
          have hl : w.heap.size ≤ w2.heap.size := i2.out.below.size
          go_wp2_with (at_builtin; refine wpList_append_own _ rfl _ _ 42 rfl w.heap.size 40 iV (.agg #[.bool false, .int .i64 0]) 2 16 Tryz.underlying42 iV1 iV2 iV3 iV4 rfl (by decide) _ 0 [] rfl ?c0 ⟨b0, off0, none⟩ n cp1 (flat n 2 c) rfl ?c1 ?c2 ?c3 ?c4 ?c5 ?c6 ?_)
          case c0 => exact O2.out
          case c1 => exact flat_len _ _ _
          case c2 => exact NW.out
          case c3 =>
            intro u hu
            obtain ⟨q, hq, e⟩ := List.getElem_of_mem hu
            obtain ⟨_, _, rfl⟩ := flat_some (by rw [List.getElem?_eq_getElem hq, e])
            exact HC.out _ _
          case c4 => unfold maxLen; omega
          case c5 => omega
          case c6 => exact hl
          intro v' w3 o3 g3 _
          have X3 : Hid (Ext w w3) := Lib.hid (by
            have kp : Keep (fun j => j = w.heap.size) w2 w3 := ⟨g3.os, g3.tape, g3.output, g3.size, fun k hk hn => g3.block k hk (fun e => hn (Option.some.inj e))⟩
            exact Ext.of_below (Keep.below i2.out.below kp hl (fun j hj e => by omega)))
          have O3 : Hid (Own w3 w.heap.size 40 v' n 2 c) := Lib.hid (by
            have := o3
            first | exact this | (rw [Nat.zero_add, List.nil_append] at this; exact this))
          clear o3 g3
          go_wp2_with fail
          go_roundw
          case rel => exact .inr ⟨.inl rfl, X3.out, O3.out⟩
          case measure => simp [intOf]
        · obtain ⟨gs, cps, es, _, _, _, _, _, _⟩ := os.lt 0 h0
          subst es
          obtain ⟨r1, r2, r3⟩ := (HB.out.ext xs).rules
          have OS := Lib.hid os
          have XS := Lib.hid xs
          clear os xs
          rcases h12 with rfl | rfl
          · go_wp2_with fail
            go_roundw
            case rel => exact .inr ⟨.inr rfl, XS.out, OS.out⟩
            case measure => simp [intOf]
          · go_wp2_with fail
            go_ret
            exact ⟨_, rfl, OS.out, XS.out⟩
end Go.Proofs.YtnhijjcplnomgaaGreat.World
