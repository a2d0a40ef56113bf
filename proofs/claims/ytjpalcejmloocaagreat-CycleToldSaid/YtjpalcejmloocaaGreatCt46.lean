/-
  Add, as one text (a claim has at most 60 files).
-/
import Derived.Test.YtjpalcejmloocaaGreatCt45
namespace Go.Proofs.YtjpalcejmloocaaGreat.World
open Go.RowKit Go.Proofs.YtjpalcejmloocaaGreat.Plain
set_option linter.unusedVariables false
attribute [local go_sem ↓] Go.wp_at_zero Go.wp_at_succ

structure BAt (w : World) (lo b : Nat) (W : PW) (x : WV) : Prop where
  blk : Blk w b 34 (cellsW W x)
  bu : Built w lo W x
theorem BAt.ext {w w' : World} {lo b : Nat} {W : PW} {x : WV} (h : BAt w lo b W x) (e : Ext w w') : BAt w' lo b W x := ⟨h.blk.ext e, h.bu.ext e⟩
def AddPost0 (w : World) (lo b : Nat) (W : PW) (x : WV) (c f : Int) (F : List PV) (B : ByteArray) (w' : World) : Prop :=
  ∃ x', BAt w' lo b (W.add c f F B) x' ∧ Keep (fun j => j = b ∨ x.L.ownBlock = some j) w w'
theorem BAt.grow {w w1 w3 : World} {lo b n gg c9 cp : Nat} {W : PW} {A : Option Addr} {fs : Nat → Value} {vF vD vRe vWa vDu vSn : Value} {F : List PV} {c f : Int} {B : ByteArray} {ob : Obj} (h : BAt w lo b W ⟨.slice A n cp, fs, vD, vRe, vWa, vDu, vSn⟩) (hn : W.L.length = n) (K1 : Keep (· = b) w w1)
    (b1 : Blk w1 b 34 (cellsW { W with last := W.last + 1 } ⟨.slice A n cp, fs, vD, vRe, vWa, vDu, vSn⟩)) (hF : ValsAt w vF F) (hy : Typ w vF 38) (g : (w1.alloc ob).grownBy w3 (Value.slice A n cp).ownBlock)
    (o3 : w3.ownsRow lo 49 6 (.slice (some ⟨gg, 0, none⟩) (n + 1) c9) (n + 1) (flat n 6 (cL W.L fs) ++ [.int .i64 c, .int .i64 f, .int .i64 (W.last + 1), .bool false, vF, .string B])) :
    BAt (w3.setCell ⟨b, 0, none⟩ (.slice (some ⟨gg, 0, none⟩) (n + 1) c9)) lo b (W.add c f F B) ⟨.slice (some ⟨gg, 0, none⟩) (n + 1) c9, fun i => if i = n then vF else fs i, vD, vRe, vWa, vDu, vSn⟩ ∧
      Keep (fun j => j = b ∨ (Value.slice A n cp).ownBlock = some j) w (w3.setCell ⟨b, 0, none⟩ (.slice (some ⟨gg, 0, none⟩) (n + 1) c9)) := by
  have L1 : Own w1 lo 49 (.slice A n cp) W.L.length 6 (cL W.L fs) := h.bu.L.kt1 h.blk K1 (by decide)
  have kp := grow_keep g
  have kt := grow_kt L1 g
  have far : ¬ (Value.slice A n cp).ownBlock = some b := fun e => by
    obtain ⟨_, cs, hc⟩ := L1.block e
    exact b1.ne hc (by decide) rfl
  have b3 := b1.keep kp far
  have kw : Keep (· = b) w3 (w3.setCell ⟨b, 0, none⟩ (.slice (some ⟨gg, 0, none⟩) (n + 1) c9)) := (Keep.refl (· = b) w3).setCell (p := ⟨b, 0, none⟩) rfl _
  have kt1 : KT [34] w w1 := K1.mono (fun j hj => ⟨_, _, List.mem_singleton_self _, hj ▸ h.blk⟩)
  have ktw : KT [34] w3 (w3.setCell ⟨b, 0, none⟩ (.slice (some ⟨gg, 0, none⟩) (n + 1) c9)) := kw.mono (fun j hj => ⟨_, _, List.mem_singleton_self _, hj ▸ b3⟩)
  have vals : ∀ (u : Value) (G : List PV), ValsAt w u G → Typ w u 38 → ValsAt (w3.setCell ⟨b, 0, none⟩ (.slice (some ⟨gg, 0, none⟩) (n + 1) c9)) u G ∧ Typ (w3.setCell ⟨b, 0, none⟩ (.slice (some ⟨gg, 0, none⟩) (n + 1) c9)) u 38 := fun u G hv hy => by
    have v1 := Row.kt hv hy kt1 (by decide)
    have y1 := hy.kt kt1 (by decide)
    exact ⟨Row.kt (Row.kt v1 y1 kt (by decide)) (y1.kt kt (by decide)) ktw (by decide), (y1.kt kt (by decide)).kt ktw (by decide)⟩
  have ow := own_more (L := W.L) (fs := fs) (t := ⟨c, f, W.last + 1, false, F, B⟩) hn o3
  have b4 := b3.set 0 (.slice (some ⟨gg, 0, none⟩) (n + 1) c9)
  simp only [cellsW, List.setIfInBounds_toArray, List.set_cons_zero, List.set_cons_succ] at b4
  have hlen : (W.add c f F B).L.length = n + 1 := by unfold PW.add; simp [hn]
  have T : ∀ i, i < n → tAt (W.add c f F B).L i = tAt W.L i := fun i hi => by show tAt (W.L ++ [_]) i = _; rw [MS.tAt_app, if_pos (by omega)]
  have TN : tAt (W.add c f F B).L n = ⟨c, f, W.last + 1, false, F, B⟩ := by show tAt (W.L ++ [_]) _ = _; rw [MS.tAt_app, if_neg (by omega), if_pos hn.symm]
  refine ⟨⟨b4, ow.kt1 b3 kw (by decide), fun i hi => ?_, fun i hi => ?_, h.bu.bare, h.bu.plain⟩, ?_⟩
  · rw [hlen] at hi
    by_cases e : i = n
    · subst e
      show ValsAt _ (if i = i then vF else fs i) _
      rw [if_pos rfl, TN]
      exact (vals _ _ hF hy).1
    · show ValsAt _ (if i = n then vF else fs i) _
      rw [if_neg e, T i (by omega)]
      exact (vals _ _ (h.bu.fs i (by omega)) (h.bu.fsT i (by omega))).1
  · rw [hlen] at hi
    by_cases e : i = n
    · subst e
      show Typ _ (if i = i then vF else fs i) _
      rw [if_pos rfl]
      exact (vals _ _ hF hy).2
    · show Typ _ (if i = n then vF else fs i) _
      rw [if_neg e]
      exact (vals _ _ (h.bu.fs i (by omega)) (h.bu.fsT i (by omega))).2
  · exact ((K1.mono (fun j hj => .inl hj)).trans (kp.mono (fun j hj => .inr hj))).trans (kw.mono (fun j hj => .inl hj))
set_option maxRecDepth 100000 in
set_option maxHeartbeats 2000000 in
theorem badd {w : World} {lo b : Nat} {W : PW} {x : WV} {vF : Value} {F : List PV} (h : BAt w lo b W x) (hlo : lo ≤ w.heap.size) (hF : ValsAt w vF F) (hy : Typ w vF 38) (c f : Int) (B : ByteArray) (hn : W.L.length ≤ 100000) (hl : -100000 ≤ W.last ∧ W.last ≤ 100000) :
    Calls Tryz.prog 7 #[.pointer (some ⟨b, 0, none⟩), .int .i64 c, .int .i64 f, vF, .string B] w fun e w' => e = .returned (.int .i64 W.L.length) ∧ AddPost0 w lo b W x c f F B w' := by
  obtain ⟨iT, iT1, iT2, iT3, iT4⟩ := info_parts infoT
  obtain ⟨vL, fs, vD, vRe, vWa, vDu, vSn⟩ := x
  obtain ⟨h1, h2, h3, h4, h5⟩ := h.bu.bare
  simp only at h1 h2 h3 h4 h5
  subst h1 h2 h3 h4 h5
  obtain ⟨A, cp, hA⟩ := h.bu.L.form
  have hA : vL = .slice A W.L.length cp := hA
  subst hA
  obtain ⟨Af, cf, rfl, _, _⟩ := Row.form hF
  obtain ⟨q1, q2, q3⟩ := h.blk.rules
  unfold cellsW at q1
  have HH := Lib.hid h
  have HF := Lib.hid hF
  have HY := Lib.hid hy
  have l1 := hl.1
  have l2 := hl.2
  clear h hF hy hl
  generalize hnf : F.length = nf at *
  go_enter Tryz.func7, Tryz.ntmps7
  go_upto_region 2 with (fail)
  refine wp_name (fun w1 hW => ?_)
  have b1 : Blk w1 b 34 (cellsW { W with last := W.last + 1 } ⟨.slice A W.L.length cp, fs, .slice none 0 0, .slice none 0 0, .slice none 0 0, .slice none 0 0, .slice none 0 0⟩) := by
    rw [hW]; exact HH.out.blk.set 2 _
  have K1 : Keep (· = b) w w1 := by rw [hW]; exact (Keep.refl (· = b) w).setCell (p := ⟨b, 2, none⟩) rfl _
  have s6 : ∀ u ∈ [Value.int .i64 c, .int .i64 f, .int .i64 (W.last + 1), .bool false, .slice Af nf cf, .string B], u.oneCell' = true := six_one ⟨c, f, W.last + 1, false, F, B⟩ (.slice Af nf cf) rfl
  have O1 : Hid (w1.drew.ownsRow lo 49 6 (.slice A W.L.length cp) W.L.length (flat W.L.length 6 (cL W.L fs))) := Lib.hid (HH.out.bu.L.kt1 HH.out.blk K1.drew (by decide))
  have FAR : Hid (some b ≠ (Value.slice A W.L.length cp).ownBlock) := Lib.hid (fun e => by
    obtain ⟨_, cs, hc⟩ := HH.out.bu.L.block e.symm
    exact HH.out.blk.ne hc (by decide) rfl)
  have K1H := Lib.hid K1
  have b1' := b1
  unfold cellsW at b1'
  have B1 := Lib.hid b1'
  clear b1'
  have lo1 : lo ≤ w1.heap.size := by have := K1.size; omega
  have lb1 := b1.lt
  obtain ⟨r1, r2, r3⟩ := b1.rules
  unfold cellsW at r1
  clear hW K1 b1 q1 q2 q3
  have own := Lib.hid (fun (w3 : World) gg c9 o3 => @own_more w3 lo W.L.length gg c9 (.slice Af nf cf) W.L fs ⟨c, f, W.last + 1, false, F, B⟩ rfl o3)
  clear hA
  generalize hk : W.L.length = n at *
  generalize hla : W.last + 1 = la at *
  go_region_law (refine step_append_lies _ (by rfl) _ _ _ (by rfl) lo 49 iT (.agg #[.int .i64 0, .int .i64 0, .int .i64 0, .bool false, .slice none 0 0, .string ByteArray.empty]) 6 72 Tryz.underlying23 iT1 iT2 iT3 iT4 rfl (by decide) _ _ _ (by rfl) (World.ownsRow.alloc O1.out _) ⟨w1.heap.size, 0, none⟩ 1 1 [.int .i64 c, .int .i64 f, .int .i64 la, .bool false, .slice Af nf cf, .string B] (by rfl) (by rfl) (World.news_of_block (heap_alloc_new w1.drew _)) s6 (by omega) (by unfold maxLen; omega) (by omega) (by simp; omega) (w1.heap.size + 1) (by simp) ?_; intro gg c9 w3 o3 g3 hat hlt3; have B3 : Blk w3 b _ _ := (g3.block b (by simp; omega) FAR.out).trans (B1.out.drew.alloc _); obtain ⟨r1, r2, r3⟩ := B3.rules)
  all_goals
    have N := HH.out.grow (c := c) (f := f) (B := B) hk K1H.out (by have q := B1.out; rw [← hla] at q; exact q) HF.out HY.out (ob := .cells #[.int .i64 c, .int .i64 f, .int .i64 la, .bool false, .slice Af nf cf, .string B] 49) ⟨g3.os, g3.tape, g3.output, g3.size, g3.block⟩ (by rw [hla]; exact o3)
    have P := Lib.hid N
    clear N B3 r1 r2 r3 o3 g3 hat hlt3
    refine then_name (fun W3 hW3 => ?_)
    rw [← hW3] at P
    clear hW3
    obtain ⟨r1, r2, r3⟩ := P.out.1.blk.rules
    unfold cellsW at r1
    go_wp2_with fail
    go_ret
    exact ⟨by simp, _, P.out.1, P.out.2⟩
end Go.Proofs.YtjpalcejmloocaaGreat.World
