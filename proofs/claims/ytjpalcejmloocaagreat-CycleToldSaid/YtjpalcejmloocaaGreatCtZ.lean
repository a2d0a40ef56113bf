/-
  CycleTold: the walk.
-/
import Derived.Test.YtjpalcejmloocaaGreatCt47
import Derived.Test.YtjpalcejmloocaaGreatCt51
import Derived.Test.YtjpalcejmloocaaGreatCt53
import Derived.BigGuardPart
namespace Go.Proofs.YtjpalcejmloocaaGreat.World
open Go.RowKit Go.Proofs.YtjpalcejmloocaaGreat.Plain
set_option linter.unusedVariables false
attribute [local go_sem ↓] Go.wp_at_zero Go.wp_at_succ
theorem cells_first11 (A1 : Option Addr) (k1 : Nat) (fs : Nat → Value) : cellsW firstW ⟨.slice A1 23 k1, fs, .slice none 0 0, .slice none 0 0, .slice none 0 0, .slice none 0 0, .slice none 0 0⟩ = #[.slice A1 23 k1, .slice none 0 0, .int .i64 23, .int .i64 0, .int .i64 0, .slice none 0 0, .slice none 0 0, .slice none 0 0, .string ByteArray.empty, .string ByteArray.empty, .int .i64 0, .int .i64 0, .slice none 0 0] := rfl
/-- so many things are in the chain -/
structure ChT (w wr : World) (b k : Nat) (x : WV) : Prop where
  ex : Ext w wr
  B : BAt wr w.heap.size b (chainW k) x
  hb : w.heap.size ≤ b
theorem wp_name_calls11 {P : Program} {f : FuncId} {args : Array Value} {w : World} {Q : Ending → World → Prop} (h : ∀ W, W = w → Calls P f args W Q) : Calls P f args w Q := h w rfl
theorem add_any {w w4 wA : World} {b : Nat} {W : PW} {x : WV} {c f : Int} {F : List PV} {B : ByteArray} (h1 : Ext w w4) (hb : w.heap.size ≤ b) (h : BAt w4 w.heap.size b W x) (hp : AddPost0 w4 w.heap.size b W x c f F B wA) : ∃ x', Ext w wA ∧ BAt wA w.heap.size b (W.add c f F B) x' := by
  obtain ⟨x', hB, hk⟩ := hp
  refine ⟨x', Ext.of_below (Keep.below h1.below hk h1.below.size (fun i hi hj => ?_)), hB⟩
  rcases hj with rfl | hj
  · omega
  · have := (h.bu.L.block hj).1
    omega
def nextC (k : Nat) : Int := if k = 0 then 0 else 22 + (k : Int)
theorem nextC_succ (k : Nat) : nextC (k + 1) = ((23 + k : Nat) : Int) := by unfold nextC; rw [if_neg (by omega)]; omega
theorem ChT.add {w w4 wA : World} {b k : Nat} {x : WV} (h : ChT w w4 b k x) (hp : AddPost0 w4 w.heap.size b (chainW k) x 7 1 [objV (nextC k)] ByteArray.empty wA) : ∃ x', ChT w wA b (k + 1) x' := by
  obtain ⟨x', e, B⟩ := add_any h.ex h.hb h.B hp
  exact ⟨x', e, B, h.hb⟩
theorem chain_R : ∀ k, (chainW k).R = regs0
  | 0 => rfl
  | k + 1 => chain_R k
theorem told_cells (k : Nat) (x : WV) : cellsW (toldW0 k) x = #[x.L, x.dead, .int .i64 ((24 + k : Nat) : Int), .int .i64 0, .int .i64 0, x.ready, x.wait, x.due, .string ByteArray.empty, .string ByteArray.empty, .int .i64 0, .int .i64 0, x.snaps] := by
  have h1 : (toldW0 k).R = regs0 := chain_R k
  have h2 : (toldW0 k).last = ((24 + k : Nat) : Int) := by
    show (chainW k).last + 1 = _
    rw [(chain_len k).2]; omega
  unfold cellsW
  rw [h1, h2]; rfl
theorem told_cells2 (k : Nat) (x : WV) : cellsW (toldW k) x = #[x.L, x.dead, .int .i64 ((24 + k : Nat) : Int), .int .i64 0, .int .i64 ((23 + k : Nat) : Int), x.ready, x.wait, x.due, .string ByteArray.empty, .string ByteArray.empty, .int .i64 0, .int .i64 0, x.snaps] := by
  have h1 : (toldW0 k).R = regs0 := chain_R k
  have h2 : (toldW0 k).last = ((24 + k : Nat) : Int) := by
    show (chainW k).last + 1 = _
    rw [(chain_len k).2]; omega
  unfold cellsW toldW
  simp only
  rw [h1, h2, show ((23 + k : Nat) : Int) = 23 + (k : Int) by omega]; rfl
theorem BAt.frame11 {w : World} {lo b k : Nat} {x : WV} (h : BAt w lo b (toldW0 k) x) : BAt (w.setCell ⟨b, 4, none⟩ (.int .i64 ((23 + k : Nat) : Int))) lo b (toldW k) x := by
  have kb : Keep (· = b) w (w.setCell ⟨b, 4, none⟩ (.int .i64 ((23 + k : Nat) : Int))) := (Keep.refl (· = b) w).setCell (p := ⟨b, 4, none⟩) rfl _
  have kt : KT [34] w (w.setCell ⟨b, 4, none⟩ (.int .i64 ((23 + k : Nat) : Int))) := kb.mono (fun j hj => ⟨_, _, List.mem_singleton_self _, hj ▸ h.blk⟩)
  have b1 := h.blk.set 4 (.int .i64 ((23 + k : Nat) : Int))
  rw [told_cells] at b1
  have p1 := h.bu.plain
  refine ⟨by rw [told_cells2]; exact b1, h.bu.L.kt kt (by decide), fun i hi => Row.kt (h.bu.fs i hi) (h.bu.fsT i hi) kt (by decide), fun i hi => (h.bu.fsT i hi).kt kt (by decide), h.bu.bare, p1⟩
/-- a machine's world whose blocks are all new -/
def MN (w w' : World) (m : Nat) (S : MS) : Prop := ∃ F, M w' F m S ∧ (∀ k, F k → w.heap.size ≤ k) ∧ Ext w w'
theorem MN.ext {w w' w2 : World} {m : Nat} {S : MS} (h : MN w w' m S) (x : Ext w' w2) : MN w w2 m S := by
  obtain ⟨F, h1, h2, h3⟩ := h
  exact ⟨F, h1.ext x, h2, h3.trans x⟩
theorem MN.goes {w w' w2 : World} {m : Nat} {S' : MS} {F : Nat → Prop} (h2 : ∀ k, F k → w.heap.size ≤ k) (h3 : Ext w w') (g : Goes F m S' w' w2) : MN w w2 m S' := by
  obtain ⟨F', m', v⟩ := g
  refine ⟨F', m', fun k hk => ?_, Ext.of_below (Keep.below h3.below v.keep h3.below.size (fun i hi hf => by have := h2 i hf; omega))⟩
  rcases v.new k hk with h | h
  · exact h2 k h
  · have := h3.below.size; omega
theorem MN.whole {w w' : World} {m n k : Nat} {S S' : MS} {t : Int} (h : MN w w' m S) (ht : t ≤ 1000000) (he : MS.wholeO n k S = some (S', t)) : Calls Tryz.prog 11 #[.pointer (some ⟨m, 0, none⟩)] w' fun e w2 => e = .returned (.int .i64 t) ∧ MN w w2 m S' := by
  obtain ⟨F, h1, h2, h3⟩ := h
  refine (mwhole h1 ht he).mono ?_
  rintro e w2 ⟨rfl, g⟩
  exact ⟨rfl, MN.goes h2 h3 g⟩
theorem MN.watch {w w' : World} {m : Nat} {S : MS} (h : MN w w' m S) (i : Int) : Calls Tryz.prog 10 #[.pointer (some ⟨m, 0, none⟩), .int .i64 i] w' fun e w2 => e = .returned (.bool (S.watchOK i)) ∧ MN w w2 m (S.watch i) := by
  obtain ⟨F, h1, h2, h3⟩ := h
  refine (mwatch h1 i).mono ?_
  rintro e w2 ⟨rfl, g, k⟩
  exact ⟨rfl, MN.goes h2 h3 ⟨F, g, k, fun k hk => .inl hk⟩⟩
theorem Own.far11 {w w' : World} {b : Nat} {F : Nat → Prop} {e : TypeId} {v : Value} {n sz : Nat} {c : Nat → Nat → Value} (h : Own w b e v n sz c) (k : Keep F w w') (hF : ∀ k, F k → k < b) : Own w' b e v n sz c := by
  have h : w.ownsRow b e sz v n (flat n sz c) := h
  refine ⟨h.1, ?_⟩
  rcases h.2 with hn | ⟨g, cap, cur, e1, h1, hg, rest⟩
  · exact .inl hn
  · exact .inr ⟨g, cap, cur, e1, h1, Blk.keep (show Blk w g e cur from hg) k (fun hf => by have := hF g hf; omega), rest⟩
theorem RegsNew.far11 {w w' : World} {b : Nat} {F : Nat → Prop} {R : PR} {re wa du sn : Value} (h : RegsNew w b R re wa du sn) (k : Keep F w w') (hF : ∀ k, F k → k < b) : RegsNew w' b R re wa du sn := ⟨h.ap, h.re.far11 k hF, h.wa.far11 k hF, h.du.far11 k hF, h.sn.far11 k hF⟩
theorem RegsNew.told11 {w : World} {b : Nat} {S : MS} {weak : Bool} {re wa du sn : Value} (h : RegsNew w b S.R re wa du sn) (hr : okRB (toldR S weak) = true) : RegsAt w (toldR S weak) re wa (.slice none 0 0) sn := by
  have rl := okR_len hr
  exact ⟨h.re.row, h.wa.row, row_nil _ _ _, h.sn.row, by omega, by omega, by omega, by omega⟩
/-- a machine's world whose blocks are all new, beside a box -/
def MQ (w : World) (gb : Nat) (w' : World) (m : Nat) (S : MS) : Prop := w.heap.size ≤ gb ∧ ∃ F, M w' F m S ∧ (∀ k, F k → w.heap.size ≤ k ∧ k ≠ gb) ∧ Ext w w'
theorem MQ.ext {w w' w2 : World} {gb m : Nat} {S : MS} (h : MQ w gb w' m S) (x : Ext w' w2) : MQ w gb w2 m S := by
  obtain ⟨h0, F, h1, h2, h3⟩ := h
  exact ⟨h0, F, h1.ext x, h2, h3.trans x⟩
theorem MQ.goes {w w' w2 : World} {gb m : Nat} {S' : MS} {F : Nat → Prop} (h0 : w.heap.size ≤ gb) (h2 : ∀ k, F k → w.heap.size ≤ k ∧ k < gb) (hg : gb < w'.heap.size) (h3 : Ext w w') (g : Goes F m S' w' w2) : MQ w gb w2 m S' := by
  obtain ⟨F', m', v⟩ := g
  refine ⟨h0, F', m', fun k hk => ?_, Ext.of_below (Keep.below h3.below v.keep h3.below.size (fun i hi hf => by have := (h2 i hf).1; omega))⟩
  rcases v.new k hk with h | h
  · have := h2 k h; exact ⟨this.1, by omega⟩
  · have := h3.below.size; exact ⟨by omega, by omega⟩
theorem box11 {w w1 : World} {gb m b : Nat} {S : MS} {R : PR} {cs : Array Value} {re wa du sn : Value} (hm : MQ w gb w1 m S) (hb : Blk w1 gb 29 cs) (hr : RegsNew w1 b R re wa du sn) (i : Nat) (v : Value) : MQ w gb (w1.setCell ⟨gb, i, none⟩ v) m S ∧ Blk (w1.setCell ⟨gb, i, none⟩ v) gb 29 (cs.setIfInBounds i v) ∧ RegsNew (w1.setCell ⟨gb, i, none⟩ v) b R re wa du sn := by
  obtain ⟨h0, F, h1, h2, h3⟩ := hm
  have kb : Keep (· = gb) w1 (w1.setCell ⟨gb, i, none⟩ v) := (Keep.refl (· = gb) w1).setCell (p := ⟨gb, i, none⟩) rfl _
  have kt : KT [29] w1 (w1.setCell ⟨gb, i, none⟩ v) := kb.mono (fun j hj => ⟨_, _, List.mem_singleton_self _, hj ▸ hb⟩)
  exact ⟨⟨h0, F, h1.afar kb (fun j hj hf => (h2 j hf).2 hj), h2, h3.setNew (p := ⟨gb, i, none⟩) h0 _⟩, hb.set i v, hr.kt kt (by decide) (by decide) (by decide)⟩
set_option maxRecDepth 100000 in
set_option maxHeartbeats 4000000 in
theorem cycleTold (v : Int) (weak : Bool) (w : World) : Calls Tryz.prog 3 #[.int .i64 v, .bool weak] w fun e w' => e = .returned (.bool true) ∧ Ext w w' := by
  have HF := Lib.hid (@first_ w)
  have HO := Lib.hid lobj
  unfold val objV at HO
  go_enter Tryz.func3, Tryz.ntmps3
  go_big_wp2_with fail
  refine HF.out.mono ?_
  clear HF
  rintro e w1 ⟨xw, rfl, b1, x1'⟩
  obtain ⟨vL, fs, vD, vRe, vWa, vDu, vSn⟩ := xw
  obtain ⟨y1, y2, y3, y4, y5⟩ := b1.bare
  simp only at y1 y2 y3 y4 y5
  subst y1 y2 y3 y4 y5
  obtain ⟨A, cp, hA⟩ := b1.L.form
  replace hA : vL = .slice A 23 cp := hA
  subst hA
  rw [cells_first11]
  go_upto_region 2 with (fail)
  refine wp_name (fun w2 hW => ?_)
  have xb : Ext w1 w2 := by rw [hW]; exact is_ext _ _
  have B2 : BAt w2 w.heap.size w1.heap.size firstW ⟨.slice A 23 cp, fs, .slice none 0 0, .slice none 0 0, .slice none 0 0, .slice none 0 0, .slice none 0 0⟩ := ⟨by rw [hW]; exact Blk.new _ _ _, b1.ext xb⟩
  have W0 : Hid (∃ x, ChT w w2 w1.heap.size 0 x) := Lib.hid ⟨_, x1'.trans xb, B2, x1'.below.size⟩
  clear hW B2 b1 x1' xb
  generalize w1.heap.size = b at *
  go_big_wp2_with fail
  refine (place20 v _).mono ?_
  rintro e w3 ⟨k0, hk0, rfl, x3⟩
  have W3 : Hid (∃ x, ChT w w3 b 0 x) := Lib.hid (by
    obtain ⟨x, h⟩ := W0.out
    exact ⟨x, h.ex.trans x3, h.B.ext x3, h.hb⟩)
  clear W0 x3
  go_big_wp2_with fail
  go_loopw [7, 8] (fun nv iv wr => ∃ k : Nat, k ≤ k0 + 1 ∧ iv = .int .i64 k ∧ nv = .int .i64 (nextC k) ∧ ∃ x, ChT w wr b k x) (fun _ iv _ => k0 + 1 - (intOf iv).toNat)
  case atStart => exact ⟨0, by omega, rfl, rfl, W3.out⟩
  case round =>
    obtain ⟨k, hk, rfl, rfl, xk, L⟩ := hrel
    have LH := Lib.hid L
    clear L W3
    by_cases hc : k < k0 + 1
    · have iL : (k : Int) < (k0 : Int) + 1 := by omega
      have DH := Lib.hid (fun (w4 : World) (y : Ext wr w4) vF hF hy => badd (w := w4) (vF := vF) (F := [objV (nextC k)]) (LH.out.B.ext y) (Nat.le_trans LH.out.ex.below.size y.below.size) hF hy 7 1 ByteArray.empty (by rw [(chain_len k).1]; omega) (by rw [(chain_len k).2]; omega))
      go_upto_region 6 with (fail)
      go_big_wp2_with (go_at_call 8; refine (HO.out _ _).mono ?_; rintro e w3 ⟨rfl, x3⟩; have i3 : IsExt wr w3 := ⟨(is_ext wr _).trans x3⟩; clear x3)
      refine wp_name_calls11 (fun w4 hW => ?_)
      have x4 : Ext wr w4 := by rw [hW]; exact is_ext _ _
      have b4 : Blk w4 w3.heap.size 38 (flat 1 2 (cF [objV (nextC k)])).toArray := by rw [hW]; exact Blk.new _ _ _
      have D := DH.out w4 x4 _ (row_flat (n := 1) b4 (by omega)) (typ_blk b4)
      have DQ := Lib.hid D
      have L4 : Hid (ChT w w4 b k xk) := Lib.hid ⟨LH.out.ex.trans x4, LH.out.B.ext x4, LH.out.hb⟩
      clear hW b4 D x4
      refine DQ.out.mono ?_
      rintro e wA ⟨rfl, hp⟩
      have P := Lib.hid (L4.out.add hp)
      clear hp DQ L4 DH
      rw [(chain_len k).1]
      go_big_wp2_with fail
      go_roundw
      case rel => exact ⟨k + 1, by omega, by go_num, by rw [nextC_succ, Int.natCast_add]; rfl, P.out⟩
      case measure => simp [intOf]; omega
    · obtain rfl : k = k0 + 1 := by omega
      have iL : (k0 : Int) + 1 ≤ ((k0 + 1 : Nat) : Int) := by omega
      have DH := Lib.hid (fun (w4 : World) (y : Ext wr w4) vF hF hy => badd (w := w4) (vF := vF) (F := [objV (22 + ((k0 + 1 : Nat) : Int))]) (LH.out.B.ext y) (Nat.le_trans LH.out.ex.below.size y.below.size) hF hy 16 2 ByteArray.empty (by rw [(chain_len (k0 + 1)).1]; omega) (by rw [(chain_len (k0 + 1)).2]; omega))
      have TS := told_start k0 hk0
      unfold told0B at TS
      simp only [Bool.and_eq_true, Bool.not_eq_true'] at TS
      obtain ⟨TC, TW1, TW2⟩ := TS
      have TP := Lib.hid (told_parts hk0 weak)
      obtain ⟨n, hn⟩ : ∃ n, n = k0 + 1 := ⟨_, rfl⟩
      have hn1 : 0 < n := by omega
      have hn2 : n ≤ 20 := by omega
      rw [← hn] at TC TW1 TW2 TP DH LH iL hk ⊢
      rw [show nextC n = ((22 + n : Nat) : Int) by unfold nextC; rw [if_neg (by omega)]; omega, show (1 : Int) + (k0 : Int) = (n : Int) by omega]
      clear hn hc hk0 iL
      go_upto_region 6 with (fail)
      refine (HO.out _ _).mono ?_
      rintro e w3 ⟨rfl, x3⟩
      go_big_wp2_with fail
      refine wp_name_calls11 (fun w4 hW => ?_)
      have x4 : Ext wr w4 := by rw [hW]; exact x3.trans (is_ext _ _)
      have b4 : Blk w4 w3.heap.size 38 (flat 1 2 (cF [objV (22 + (n : Int))])).toArray := by rw [hW]; exact Blk.new _ _ _
      have D := DH.out w4 x4 _ (row_flat (n := 1) b4 (by omega)) (typ_blk b4)
      have DQ := Lib.hid D
      have L4 : Hid (ChT w w4 b n xk) := Lib.hid ⟨LH.out.ex.trans x4, LH.out.B.ext x4, LH.out.hb⟩
      clear hW b4 D x4 x3
      refine DQ.out.mono ?_
      rintro e wA ⟨rfl, hp⟩
      have P := Lib.hid (add_any L4.out.ex L4.out.hb L4.out.B hp)
      have HB := Lib.hid L4.out.hb
      clear hp DQ L4 DH
      rw [(chain_len n).1]
      obtain ⟨x', xA, bA⟩ := P.out
      clear P
      obtain ⟨vL, fs', vD, vRe, vWa, vDu, vSn⟩ := x'
      obtain ⟨y1, y2, y3, y4, y5⟩ := bA.bu.bare
      simp only at y1 y2 y3 y4 y5
      subst y1 y2 y3 y4 y5
      obtain ⟨AL, cL, hA⟩ := bA.bu.L.form
      simp only at hA
      generalize hq : (PW.add (chainW n) 16 2 [objV (22 + (n : Int))] ByteArray.empty).L.length = nl at hA
      clear hq
      subst hA
      replace bA : BAt wA w.heap.size b (toldW0 n) ⟨.slice AL nl cL, fs', .slice none 0 0, .slice none 0 0, .slice none 0 0, .slice none 0 0, .slice none 0 0⟩ := bA
      obtain ⟨p1, p2, p3⟩ := bA.blk.rules
      rw [told_cells] at p1
      have BA := Lib.hid bA
      have XA := Lib.hid xA
      clear bA xA LH
      go_upto_region 10 with (fail)
      refine wp_name (fun w5 hW => ?_)
      have B5 : BAt w5 w.heap.size b (toldW n) ⟨.slice AL nl cL, fs', .slice none 0 0, .slice none 0 0, .slice none 0 0, .slice none 0 0, .slice none 0 0⟩ := by
        rw [hW]
        have q := BA.out.frame11
        rw [show ((23 + n : Nat) : Int) = 23 + (n : Int) by omega] at q
        exact q
      have X5 := Lib.hid (show Ext w w5 by rw [hW]; exact XA.out.setNew (p := ⟨b, 4, none⟩) HB.out _)
      have ON := Lib.hid (objnew (B5.bu.at_ (nums_of_check TC)) TC B5.bu.plain.1 3)
      rw [told_cells2] at ON
      obtain ⟨r1, r2, r3⟩ := B5.blk.rules
      rw [told_cells2] at r1
      rw [show ((23 + n : Nat) : Int) = 23 + (n : Int) by omega, show ((24 + n : Nat) : Int) = 24 + (n : Int) by omega] at r1 ON
      clear hW B5 BA XA p1 p2 p3 HB TC
      go_big_wp2_with fail
      refine ON.out.mono ?_
      rintro e w6 ⟨m, F, rfl, hm, hF, x6⟩
      have M0 := Lib.hid (show MN w w6 m (newS (toldW n) 3) from ⟨F, hm, fun k hk => Nat.le_trans X5.out.below.size (hF k hk), X5.out.trans x6⟩)
      clear hm hF x6 ON X5 r1 r2 r3
      go_big_wp2_with fail
      refine (M0.out.watch _).mono ?_
      rintro e w7 ⟨rfl, m1⟩
      rw [TW1]
      have M1 := Lib.hid (show MN w w7 m (told1S n) from m1)
      clear m1 M0
      generalize told1S n = S1 at *
      obtain ⟨S2, S3, S4, t2, t3, t4, e2, l2, h2, e3, l3, o3, oR, d3, hs3, ck, e4, l4, h4⟩ := TP.out
      unfold told2B at h2
      unfold told4B at h4
      simp only [Bool.and_eq_true, Bool.not_eq_true', decide_eq_true_eq, List.all_eq_true, List.mem_range] at h2 h4
      obtain ⟨⟨f2, o2⟩, due2, fin2, ⟨go2, gn2⟩, has2⟩ := h2
      obtain ⟨has4, has4w, due4, o4⟩ := h4
      have W2 := Lib.hid (fun (W : World) (h : MN w W m S1) => h.whole l2 e2)
      have W3 := Lib.hid (And.intro l3 e3)
      have W4 := Lib.hid (fun (W : World) (h : MN w W m (S3.setR (toldR S2 weak))) => h.whole l4 e4)
      have CK := Lib.hid ck
      have OR := Lib.hid oR
      have O3 := Lib.hid o3
      have D3 := Lib.hid d3
      have HS3 := Lib.hid hs3
      have H4 := Lib.hid (And.intro has4 (And.intro has4w (And.intro due4 o4)))
      clear e2 e3 e4 TP TW1 l2 l3 l4 ck oR o3 d3 hs3 has4 has4w due4 o4
      go_big_wp2_with fail
      refine (M1.out.watch _).mono ?_
      rintro e w8 ⟨rfl, m1⟩
      have hS1 : S1.watch 5 = S1 := by unfold MS.watch; rw [TW2]; rfl
      rw [hS1] at m1
      have M2 := Lib.hid m1
      rw [TW2]
      clear m1 M1 hS1 TW2
      go_big_wp2_with fail
      refine (W2.out _ M2.out).mono ?_
      rintro e w9 ⟨rfl, m3⟩
      have M3 := Lib.hid m3
      clear m3 M2 W2
      go_big_wp2_with fail
      obtain ⟨F, m9, fl, X9⟩ := M3.out
      refine (mregsM m9 o2).mono ?_
      rintro e w10 ⟨⟨re, wa, du, sn, rfl, RN⟩, x10⟩
      have FL := Lib.hid (fun k (hk : F k) => And.intro (fl k hk) (m9.lt k hk))
      have XA := Lib.hid (X9.trans x10)
      have MA := Lib.hid (m9.ext x10)
      have RH := Lib.hid RN
      have hd1 : S2.R.due.length = 1 := by rw [due2]; rfl
      obtain ⟨A1, c1, q1⟩ := RN.re.form
      obtain ⟨A2, c2, q2⟩ := RN.wa.form
      obtain ⟨A3, c3, q3⟩ := RN.du.form
      obtain ⟨A4, c4, q4⟩ := RN.sn.form
      subst q1 q2 q3 q4
      obtain ⟨bd, od, qd, hbd, hcd⟩ := Row.at_ RN.du.row 0 (by omega)
      have cd := hcd 0 (by omega)
      unfold cI at cd
      rw [due2] at cd
      have CD := Lib.hid (show w10.cell? ⟨bd, od, none⟩ = some (.int .i64 (22 + (n : Int))) from by simpa using cd)
      rw [hd1] at RH ⊢
      clear RN m9 fl X9 M3 cd hcd
      subst qd
      unfold cellsR
      go_upto_region 15 with (fail)
      refine wp_name (fun w11 hW => ?_)
      have BX := Lib.hid (Blk.new' hW)
      have xb := (Ext.refl w10).alloc' hW
      have c1 := (xb.below.cell (p := ⟨bd, od, none⟩) hbd).trans CD.out
      have l1 := Nat.lt_of_lt_of_le hbd xb.below.size
      have MB := Lib.hid (MA.out.ext xb)
      have XB := Lib.hid (XA.out.trans xb)
      have hga := Lib.hid XA.out.below.size
      have RB := Lib.hid (RH.out.ext xb)
      clear hW xb CD MA XA RH hbd
      have hgb := Lib.hid x10.below.size
      clear x10
      generalize w10.heap.size = gb at *
      obtain ⟨r1, r2, r3⟩ := BX.out.rules
      go_big_wp2_with fail
      have hp0 : S2.has (22 + (n : Int)) = true := by simpa using has2 0 hn1
      refine (mthingF MB.out (22 + (n : Int)) hp0 (by rw [f2]; decide)).mono ?_
      rintro e w12 ⟨vF, rfl, oF, x12⟩
      obtain ⟨AF, cF, qF⟩ := oF.form
      subst qF
      clear oF
      have hf3 : (S2.t (22 + (n : Int))).fin = false := by
        have q := fin2
        unfold MS.final at q
        rw [hp0, Bool.true_and] at q
        exact q
      generalize (S2.t (22 + (n : Int))).F.length = nF at *
      unfold tcells
      rw [hf3]
      generalize (S2.t (22 + (n : Int))).cls = tc1 at *
      generalize (S2.t (22 + (n : Int))).fmt = tc2 at *
      generalize (S2.t (22 + (n : Int))).hash = tc3 at *
      have FLD : ∀ W, Sem.run Tryz.prog (Instr.field 49 (.agg #[.int .i64 tc1, .int .i64 tc2, .int .i64 tc3, .bool false, .slice AF nF cF, .string ByteArray.empty]) 3) W = .ok (.bool false) W := fun W => by kernel_rfl
      have FO : ∀ W, Sem.run Tryz.prog (Instr.field 38 (.agg #[.bool true, .int .i64 0]) 0) W = .ok (.bool true) W := fun W => by kernel_rfl
      have FN : ∀ W, Sem.run Tryz.prog (Instr.field 38 (.agg #[.bool true, .int .i64 0]) 1) W = .ok (.int .i64 0) W := fun W => by kernel_rfl
      have MC := Lib.hid (MB.out.ext x12)
      have XC := Lib.hid x12
      clear x12 r1 r2 r3 c1 l1
      go_big_wp2_with fail
      refine (mget MC.out (23 + (n : Int)) 0).mono ?_
      rintro e w13 ⟨rfl, x13⟩
      unfold val
      rw [go2, gn2]
      have MD := Lib.hid (MC.out.ext x13)
      have XD := Lib.hid (XC.out.trans x13)
      clear x13 MC XC
      go_big_wp2_with fail
      refine (mget MD.out (23 + (n : Int)) 0).mono ?_
      rintro e w14 ⟨rfl, x14⟩
      unfold val
      rw [go2, gn2]
      have M5 := Lib.hid (MD.out.ext x14)
      have X5 := Lib.hid (XB.out.trans (XD.out.trans x14))
      have R5 := Lib.hid (RB.out.ext (XD.out.trans x14))
      have B5 := Lib.hid (BX.out.ext (XD.out.trans x14))
      clear x14 MD XD MB XB RB BX
      go_big_wp2_with fail
      clear FLD FO FN
      generalize w14.heap.size = zz at *
      have W14 : Hid (Ext w14 w14) := Lib.hid (Ext.refl _)
      go_loopw [13] (fun iv wx => ∃ j : Nat, j ≤ n ∧ iv = .int .i64 j ∧ Ext w14 wx) (fun iv _ => n - (intOf iv).toNat)
      case atStart => exact ⟨0, by omega, rfl, W14.out⟩
      case round =>
        obtain ⟨j, hj, rfl, xj⟩ := hrel
        obtain ⟨bt, R⟩ := M5.out.rd
        have c0 := (xj.below.cell (p := ⟨m, 0, none⟩) R.lt).trans R.c0
        have lt := Nat.lt_of_lt_of_le R.lt xj.below.size
        by_cases hc : j < n
        · have iL : (j : Int) < (n : Int) := by omega
          have hh := has2 j hc
          have CH := Lib.hid (fun (W : World) [x : IsExt wr W] => by
            haveI : IsExt w14 W := ⟨xj.trans x.out⟩
            have q := R.has W (22 + (n : Int) - (j : Int))
            rw [hh] at q
            exact q)
          have XJ := Lib.hid xj
          clear R xj hh
          go_big_wp2_with (first | (go_at_call 174; refine (CH.out _).mono ?_; rintro e w2 ⟨rfl, x2⟩; obtain ⟨y, rfl⟩ := x2))
          exact ⟨⟨j + 1, by omega, by go_num, XJ.out.trans (is_ext _ _)⟩, by simp [intOf]; omega⟩
        · obtain rfl : j = n := by omega
          have iL : (j : Int) ≤ (j : Int) := Int.le_refl _
          have M6 := Lib.hid (M5.out.ext xj)
          have XJ := Lib.hid xj
          clear R xj c0 lt
          go_big_wp2_with fail
          refine (mwhole M6.out W3.out.1 W3.out.2).mono ?_
          rintro e w15 ⟨rfl, g15⟩
          have M7 := Lib.hid (MQ.goes (gb := gb) hga.out (fun k hk => by have := FL.out k hk; have := hgb.out; omega) (B5.out.ext XJ.out).lt (X5.out.trans XJ.out) g15)
          obtain ⟨F7, _, v15⟩ := g15
          have B7 := Lib.hid ((B5.out.ext XJ.out).keep v15.keep (fun hf => by have := (FL.out _ hf).2; have := hgb.out; omega))
          have R7 := Lib.hid ((R5.out.ext XJ.out).far11 v15.keep (fun k hk => (FL.out k hk).2))
          clear v15 M6 M5 XJ X5 B5 R5 W3 FL hgb hga due2 fin2 f2 go2 gn2 has2 hd1 hp0 hf3
          go_big_wp2_with fail
          obtain ⟨h8, F8, m8, fl8, X8⟩ := M7.out
          refine (mregsM m8 O3.out).mono ?_
          rintro e w16 ⟨⟨re', wa', du', sn', rfl, RN⟩, x16⟩
          obtain ⟨A1', c1', q1⟩ := RN.re.form
          obtain ⟨A2', c2', q2⟩ := RN.wa.form
          obtain ⟨A3', c3', q3⟩ := RN.du.form
          obtain ⟨A4', c4', q4⟩ := RN.sn.form
          subst q1 q2 q3 q4
          rw [D3.out]
          unfold cellsR
          have FLD : ∀ W, Sem.run Tryz.prog (Instr.field 29 (.agg #[.int .i64 S3.R.proc, .int .i64 S3.R.frame, .slice A1' S3.R.ready.length c1', .slice A2' S3.R.wait.length c2', .slice A3' 1 c3', .string S3.R.out, .string S3.R.inp, .int .i64 S3.R.how, .int .i64 S3.R.exit, .slice A4' S3.R.snaps.length c4']) 4) W = .ok (.slice A3' 1 c3') W := fun W => by kernel_rfl
          have M8 := Lib.hid (show MQ w gb w16 m S3 from ⟨h8, F8, m8.ext x16, fl8, X8.trans x16⟩)
          have B8 := Lib.hid (B7.out.ext x16)
          have R8 := Lib.hid (R7.out.ext x16)
          obtain ⟨bt, R⟩ := (m8.ext x16).rd
          have c0 := R.c0
          have lt := R.lt
          have CH := Lib.hid (fun (W : World) [x : IsExt w16 W] => by
            have q := R.has W 23
            rw [HS3.out] at q
            exact q)
          clear R RN m8 fl8 X8 x16 M7 B7 R7
          go_big_wp2_with fail
          refine (CH.out _).mono ?_
          rintro e w17 ⟨rfl, x17⟩
          have M9 := Lib.hid (M8.out.ext x17)
          have B9 := Lib.hid (B8.out.ext x17)
          have R9 := Lib.hid (R8.out.ext x17)
          clear x17 M8 B8 R8 CH c0 lt FLD HS3 D3
          obtain ⟨r1, r2, r3⟩ := B9.out.rules
          have P4 := Lib.hid (box11 M9.out B9.out R9.out 4 (.slice none 0 0))
          have P1 := Lib.hid (box11 P4.out.1 P4.out.2.1 P4.out.2.2 1 (.int .i64 0))
          cases weak
          all_goals go_upto_region 28 with (fail)
          all_goals refine wp_name (fun w18 hW => ?_)
          all_goals first | (have P := P1.out; have Q := Lib.hid (show MQ w gb w18 m S3 ∧ Blk w18 gb 29 #[.int .i64 S2.R.proc, .int .i64 0, .slice A1 S2.R.ready.length c1, .slice A2 S2.R.wait.length c2, .slice none 0 0, .string S2.R.out, .string S2.R.inp, .int .i64 S2.R.how, .int .i64 S2.R.exit, .slice A4 S2.R.snaps.length c4] ∧ RegsAt w18 (toldR S2 true) (.slice A1 S2.R.ready.length c1) (.slice A2 S2.R.wait.length c2) (.slice none 0 0) (.slice A4 S2.R.snaps.length c4) by rw [hW]; exact ⟨P.1, P.2.1, P.2.2.told11 OR.out⟩)) | (have P := P4.out; have Q := Lib.hid (show MQ w gb w18 m S3 ∧ Blk w18 gb 29 #[.int .i64 S2.R.proc, .int .i64 S2.R.frame, .slice A1 S2.R.ready.length c1, .slice A2 S2.R.wait.length c2, .slice none 0 0, .string S2.R.out, .string S2.R.inp, .int .i64 S2.R.how, .int .i64 S2.R.exit, .slice A4 S2.R.snaps.length c4] ∧ RegsAt w18 (toldR S2 false) (.slice A1 S2.R.ready.length c1) (.slice A2 S2.R.wait.length c2) (.slice none 0 0) (.slice A4 S2.R.snaps.length c4) by rw [hW]; exact ⟨P.1, P.2.1, P.2.2.told11 OR.out⟩))
          all_goals clear P hW M9 B9 R9 r1 r2 r3 P4 P1
          all_goals obtain ⟨r1, r2, r3⟩ := Q.out.2.1.rules
          all_goals go_big_wp2_with fail
          all_goals obtain ⟨h19, F9, m9, fl9, X9⟩ := Q.out.1
          all_goals refine (msetregs m9 O3.out OR.out CK.out Q.out.2.2).mono ?_
          all_goals rintro e w19 ⟨rfl, g19⟩
          all_goals have M11 := Lib.hid (MN.goes (fun k hk => (fl9 k hk).1) X9 g19)
          all_goals clear g19 m9 fl9 X9 h19 Q r1 r2 r3 O3 OR CK
          all_goals go_big_wp2_with fail
          all_goals refine (W4.out _ M11.out).mono ?_
          all_goals rintro e w20 ⟨rfl, m20⟩
          all_goals have M12 := Lib.hid m20
          all_goals clear m20 M11 W4
          all_goals go_big_wp2_with fail
          all_goals (
            obtain ⟨F0, m0, fl0, X0⟩ := M12.out
            obtain ⟨bt, R⟩ := m0.rd
            have W20 : Hid (Ext w20 w20) := Lib.hid (Ext.refl _)
            have ok4 := H4.out.2.2.2
            have du4 := H4.out.2.2.1
            have MM := Lib.hid m0
            have XM := Lib.hid X0
            clear fl0 m0 X0 M12
            go_loopw [14] (fun iv wx => ∃ t : Nat, t ≤ j ∧ iv = .int .i64 t ∧ Ext w20 wx) (fun iv _ => j - (intOf iv).toNat)
            case atStart => exact ⟨0, by omega, rfl, W20.out⟩
            case round =>
              obtain ⟨t, ht, rfl, xj⟩ := hrel
              have c0 := (xj.below.cell (p := ⟨m, 0, none⟩) R.lt).trans R.c0
              have lt := Nat.lt_of_lt_of_le R.lt xj.below.size
              by_cases hc : t < j
              · have iL : (t : Int) < (j : Int) := by omega
                have hh := H4.out.1 t hc
                have CH := Lib.hid (fun (W : World) [x : IsExt wr W] => by
                  haveI : IsExt w20 W := ⟨xj.trans x.out⟩
                  have q := R.has W (22 + (j : Int) - (t : Int))
                  rw [hh] at q
                  exact q)
                have XJ := Lib.hid xj
                clear R xj hh ok4 du4
                go_big_wp2_with (first | (go_at_call 174; refine (CH.out _).mono ?_; rintro e w2 ⟨rfl, x2⟩; obtain ⟨y, rfl⟩ := x2))
                exact ⟨⟨t + 1, by omega, by go_num, XJ.out.trans (is_ext _ _)⟩, by simp [intOf]; omega⟩
              · obtain rfl : t = j := by omega
                have iL : (t : Int) ≤ (t : Int) := Int.le_refl _
                obtain ⟨bh, hbh⟩ : ∃ b, S4.has (23 + (t : Int)) = b := ⟨_, rfl⟩
                have hv := H4.out.2.1
                rw [hbh] at hv
                have CH := Lib.hid (fun (W : World) [x : IsExt wr W] => by
                  haveI : IsExt w20 W := ⟨xj.trans x.out⟩
                  have q := R.has W (23 + (t : Int))
                  rw [hbh] at q
                  exact q)
                have XJ := Lib.hid xj
                have OK4 := Lib.hid ok4
                have DU4 := Lib.hid du4
                clear R xj ok4 du4 hbh
                cases bh
                all_goals first | (exfalso; revert hv; decide) | skip
                clear hv
                go_big_wp2_with (first | (go_at_call 174; refine (CH.out _).mono ?_; rintro e w2 ⟨rfl, x2⟩; obtain ⟨y, rfl⟩ := x2))
                refine wp_name_calls11 (fun w21 hW => ?_)
                have x21 : Ext wr w21 := by rw [hW]; exact is_ext _ _
                clear hW
                refine (mregsM (MM.out.ext (XJ.out.trans x21)) OK4.out).mono ?_
                rintro e w22 ⟨⟨re', wa', du', sn', rfl, RN⟩, x22⟩
                obtain ⟨A1', c1', q1⟩ := RN.re.form
                obtain ⟨A2', c2', q2⟩ := RN.wa.form
                obtain ⟨A3', c3', q3⟩ := RN.du.form
                obtain ⟨A4', c4', q4⟩ := RN.sn.form
                subst q1 q2 q3 q4
                rw [DU4.out]
                unfold cellsR
                have FLD : ∀ W, Sem.run Tryz.prog (Instr.field 29 (.agg #[.int .i64 S4.R.proc, .int .i64 S4.R.frame, .slice A1' S4.R.ready.length c1', .slice A2' S4.R.wait.length c2', .slice A3' 0 c3', .string S4.R.out, .string S4.R.inp, .int .i64 S4.R.how, .int .i64 S4.R.exit, .slice A4' S4.R.snaps.length c4']) 4) W = .ok (.slice A3' 0 c3') W := fun W => by kernel_rfl
                have X22 := Lib.hid (XM.out.trans (XJ.out.trans (x21.trans x22)))
                clear RN x21 x22 XM XJ MM
                go_big_wp2_with fail
                refine (awake11 _).mono ?_
                rintro e w23 ⟨rfl, x23⟩
                have X23 := Lib.hid (X22.out.trans x23)
                clear x23 X22 FLD
                go_big_wp2_with fail
                go_ret
                exact ⟨rfl, X23.out⟩)
end Go.Proofs.YtjpalcejmloocaaGreat.World
