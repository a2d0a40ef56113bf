/-
  ReachWeak: the walk.
-/
import Derived.Test.YtadhkmplhgcgkaaWeakPlain
import Derived.Test.YtadhkmplhgcgkaaRefPlain
import Derived.Test.YtadhkmplhgcgkaaIRow
namespace Go.Proofs.Ytadhkmplhgcgkaa.World
open Go.RowKit Go.Proofs.Ytadhkmplhgcgkaa.Plain
set_option linter.unusedVariables false
attribute [local go_sem ↓] Go.wp_at_zero Go.wp_at_succ
/-- a list of truths of the call's own -/
def OwnT (w : World) (base : Nat) (v : Value) (zs : List Bool) : Prop := w.ownsRow base 4 1 v zs.length (zs.map Value.bool)
theorem OwnT.nil (w : World) (base : Nat) : OwnT w base (.slice none 0 0) [] := World.ownsRow_nil _ _ _ _
theorem flat_oneT (zs : List Bool) : flat zs.length 1 (fun i _ => .bool (zs.getD i false)) = zs.map Value.bool := by
  refine List.ext_getElem? fun i => ?_
  rcases Nat.lt_or_ge i zs.length with h | h
  · have := flat_at zs.length 1 (fun i _ => Value.bool (zs.getD i false)) i 0 h (by omega)
    rw [Nat.mul_one, Nat.add_zero] at this
    rw [this, List.getElem?_map, List.getElem?_eq_getElem h, List.getD_eq_getElem?_getD, List.getElem?_eq_getElem h]; rfl
  · rw [List.getElem?_eq_none (by rw [flat_len]; omega), List.getElem?_eq_none (by simpa using h)]
theorem OwnT.own {w : World} {base : Nat} {v : Value} {zs : List Bool} (h : OwnT w base v zs) : Own w base 4 v zs.length 1 (fun i _ => .bool (zs.getD i false)) := by
  unfold Own; rw [flat_oneT]; exact h
theorem OwnT.ext {w w' : World} {base : Nat} {v : Value} {zs : List Bool} (h : OwnT w base v zs) (x : Ext w w') : OwnT w' base v zs := by
  have := h.own.ext x
  unfold Own at this; rw [flat_oneT] at this; exact this
theorem OwnT.kt {w w' : World} {base : Nat} {v : Value} {zs : List Bool} {ts : List TypeId} (h : OwnT w base v zs) (k : KT ts w w') (hn : 4 ∉ ts) : OwnT w' base v zs := by
  have := h.own.kt k hn
  unfold Own at this; rw [flat_oneT] at this; exact this
theorem OwnI.kt {w w' : World} {base : Nat} {v : Value} {zs : List Int} {ts : List TypeId} (h : OwnI w base v zs) (k : KT ts w w') (hn : 3 ∉ ts) : OwnI w' base v zs := by
  have := h.own.kt k hn
  unfold Own at this; rw [flat_one] at this; exact this
def idsW (k : Nat) : List Int := (List.range k).map (fun q => ((23 + q : Nat) : Int))
def wkW (l : List Int) (k : Nat) : List Bool := (List.range k).map (isW l)
theorem idsW_succ (k : Nat) : idsW (k + 1) = idsW k ++ [((23 + k : Nat) : Int)] := by unfold idsW; rw [List.range_succ, List.map_append]; rfl
theorem wkW_succ (l : List Int) (k : Nat) : wkW l (k + 1) = wkW l k ++ [isW l k] := by unfold wkW; rw [List.range_succ, List.map_append]; rfl
theorem idsW_len (k : Nat) : (idsW k).length = k := by unfold idsW; simp
theorem wkW_len (l : List Int) (k : Nat) : (wkW l k).length = k := by unfold wkW; simp
structure WKL (w wr : World) (b : Nat) (l : List Int) (k : Nat) (v4 v6 : Value) (xv : WV) : Prop where
  x : Ext w wr
  B : BAt wr w.heap.size b (weakW l k) xv
  hb : w.heap.size ≤ b
  ids : OwnI wr w.heap.size v4 (idsW k)
  wk : OwnT wr w.heap.size v6 (wkW l k)
theorem wp_name_calls {P : Program} {f : FuncId} {args : Array Value} {w : World} {Q : Ending → World → Prop} (h : ∀ W, W = w → Calls P f args W Q) : Calls P f args w Q := h w rfl
theorem nextO_succ (k : Nat) : nextO (k + 1) = ((23 + k : Nat) : Int) := by unfold nextO; rw [if_neg (by omega)]; omega
theorem BAt.kt {w w' : World} {lo b : Nat} {W : PW} {x : WV} {ts : List TypeId} (h : BAt w lo b W x) (k : KT ts w w') (h1 : 34 ∉ ts) (h2 : 57 ∉ ts) (h3 : 37 ∉ ts) : BAt w' lo b W x :=
  ⟨blk_kt h.blk k h1, h.bu.L.kt k h2, fun i hi => Row.kt (h.bu.fs i hi) (h.bu.fsT i hi) k h3, fun i hi => (h.bu.fsT i hi).kt k h3, h.bu.bare, h.bu.plain⟩
theorem own_ext {w w1 w3 : World} {ob : Obj} {v : Value} {e : TypeId} {n sz : Nat} {c : Nat → Nat → Value} (x : Ext w w1) (h : Own w1 w.heap.size e v n sz c) (g : (w1.alloc ob).grownBy w3 v.ownBlock) : Ext w w3 :=
  Ext.of_below (Keep.below x.below (grow_keep g) x.below.size (fun i hi hj => by have := (h.block hj).1; omega))
/-- a thing more -/
theorem WKL.add {w w4 wA : World} {b k : Nat} {l : List Int} {v4 v6 : Value} {x : WV} (h : WKL w w4 b l k v4 v6 x) (hp : AddPost0 w4 w.heap.size b (weakW l k) x (clsW (isW l k)) (fmtW (isW l k)) [num k, objV (nextO k)] ByteArray.empty wA) :
    ∃ x', Ext w wA ∧ BAt wA w.heap.size b (weakW l (k + 1)) x' ∧ OwnI wA w.heap.size v4 (idsW k) ∧ OwnT wA w.heap.size v6 (wkW l k) := by
  obtain ⟨x', hB, hk⟩ := hp
  have kt : KT [34, 57] w4 wA := hk.mono (fun j hj => by
    rcases hj with rfl | hj
    · exact ⟨_, _, by simp, h.B.blk⟩
    · obtain ⟨_, cs, hb⟩ := h.B.bu.L.block hj
      exact ⟨_, _, by simp, hb⟩)
  refine ⟨x', Ext.of_below (Keep.below h.x.below hk h.x.below.size (fun i hi hj => ?_)), hB, h.ids.kt kt (by decide), h.wk.kt kt (by decide)⟩
  have hb := h.hb
  rcases hj with rfl | hj
  · omega
  · have := (h.B.bu.L.block hj).1
    omega
theorem weak_cells (l : List Int) (k : Nat) (x : WV) : cellsW (weakW l k) x = #[x.L, x.dead, .int .i64 ((23 + k : Nat) : Int), .int .i64 0, .int .i64 0, x.ready, x.wait, x.due, .string ByteArray.empty, .string ByteArray.empty, .int .i64 0, .int .i64 0, x.snaps] := by
  unfold cellsW
  rw [(weak_len l k).2, (weak_R l k).1]; rfl
theorem end_cells (l : List Int) (k : Nat) (x : WV) : cellsW (endW l k) x = #[x.L, x.dead, .int .i64 ((23 + k : Nat) : Int), .int .i64 0, .int .i64 (nextO k), x.ready, x.wait, x.due, .string ByteArray.empty, .string ByteArray.empty, .int .i64 0, .int .i64 0, x.snaps] := by
  unfold cellsW endW
  rw [(weak_len l k).2]; rfl
theorem BAt.frame {w : World} {lo b k : Nat} {l : List Int} {x : WV} (h : BAt w lo b (weakW l k) x) : BAt (w.setCell ⟨b, 4, none⟩ (.int .i64 (nextO k))) lo b (endW l k) x := by
  have kb : Keep (· = b) w (w.setCell ⟨b, 4, none⟩ (.int .i64 (nextO k))) := (Keep.refl (· = b) w).setCell (p := ⟨b, 4, none⟩) rfl _
  have kt : KT [34] w (w.setCell ⟨b, 4, none⟩ (.int .i64 (nextO k))) := kb.mono (fun j hj => ⟨_, _, List.mem_singleton_self _, hj ▸ h.blk⟩)
  have b1 := h.blk.set 4 (.int .i64 (nextO k))
  rw [weak_cells] at b1
  refine ⟨by rw [end_cells]; exact b1, h.bu.L.kt kt (by decide), fun i hi => Row.kt (h.bu.fs i hi) (h.bu.fsT i hi) kt (by decide), fun i hi => (h.bu.fsT i hi).kt kt (by decide), h.bu.bare, ⟨h.bu.plain.1, rfl, rfl, rfl, rfl⟩⟩
def stJ (l : List Int) (k j : Nat) : Bool := allTo (fun q => !(decide (j ≤ q) && isW l q)) k
theorem st_stJ (l : List Int) (k q : Nat) : stW l k q = stJ l k (q + 1) := rfl
theorem stJ_iff (l : List Int) (k j : Nat) : stJ l k j = true ↔ ∀ q, j ≤ q → q < k → isW l q = false := by
  unfold stJ
  rw [allTo_iff]
  constructor
  · intro h q h1 h2
    have := h q h2
    rw [decide_eq_true h1, Bool.true_and] at this
    simpa using this
  · intro h q hq
    by_cases h1 : j ≤ q
    · rw [h q h1 hq]; simp
    · rw [decide_eq_false h1]; rfl
theorem stJ_end (l : List Int) (k : Nat) : stJ l k k = true := (stJ_iff l k k).2 fun q h1 h2 => by omega
theorem stJ_down (l : List Int) (k p : Nat) (hp : p < k) : stJ l k p = (stJ l k (p + 1) && !isW l p) := by
  rw [Bool.eq_iff_iff, Bool.and_eq_true, stJ_iff, stJ_iff]
  constructor
  · intro h
    refine ⟨fun q h1 h2 => h q (by omega) h2, ?_⟩
    rw [h p (Nat.le_refl _) hp]; rfl
  · rintro ⟨h1, h2⟩ q h3 h4
    by_cases e : q = p
    · subst e; simpa using h2
    · exact h1 q (by omega) h4
theorem field_L (A : Option Addr) (n c : Nat) (vD vRe vWa vDu vSn : Value) (a p f h e : Int) (o i : ByteArray) (W : World) : (Instr.field 31 (.agg #[.slice A n c, vD, .int .i64 a, .int .i64 p, .int .i64 f, vRe, vWa, vDu, .string o, .string i, .int .i64 h, .int .i64 e, vSn]) 0).run Try.prog W = .ok (.slice A n c) W := by kernel_rfl
theorem idsW_at (k p : Nat) (hp : p < k) : (idsW k).getD p 0 = ((23 + p : Nat) : Int) := by
  unfold idsW
  rw [List.getD_eq_getElem?_getD, List.getElem?_map, List.getElem?_range hp]; rfl
theorem wkW_at (l : List Int) (k p : Nat) (hp : p < k) : (wkW l k).getD p false = isW l p := by
  unfold wkW
  rw [List.getD_eq_getElem?_getD, List.getElem?_map, List.getElem?_range hp]; rfl
theorem cell_sB {w : World} {g : Nat} {t : TypeId} {s : List Bool} (h : Blk w g t (s.map Value.bool).toArray) (i : Nat) (hi : i < s.length) : w.cell? ⟨g, i, none⟩ = some (.bool (sB s i)) := by
  rw [h.cell, List.getElem?_toArray, List.getElem?_map, List.getElem?_eq_getElem hi]
  unfold sB
  rw [List.getD_eq_getElem?_getD, List.getElem?_eq_getElem hi]; rfl
set_option maxRecDepth 100000 in
set_option maxHeartbeats 4000000 in
theorem reachWeak (a0 : Option Addr) (len0 cap0 : Nat) (z0 : List Int) (w : World) (w0 : IRow .i64 w a0 len0 cap0 z0) :
    Calls Try.prog 3 #[.slice a0 len0 cap0] w fun e w' => e = .returned (.bool true) ∧ Below w.heap.size w w' := by
  obtain ⟨hr, hz, hl⟩ := w0.reads
  have HR := Lib.hid hr
  clear hr w0
  have HF := Lib.hid (@first_ w)
  have HN := Lib.hid lnum
  have HO := Lib.hid lobj
  unfold val num at HN
  unfold val objV at HO
  obtain ⟨i0, hi0, hz0, hz1, hz2⟩ := info_parts infoN
  obtain ⟨ib, hib, hb0, hb1, hb2⟩ := info_parts infoB
  go_enter Try.func3, Try.ntmps3
  go_wp2_with fail
  refine HF.out.mono ?_
  clear HF
  rintro e w1 ⟨xw, rfl, b1, x1'⟩
  obtain ⟨vL, fs, vD, vRe, vWa, vDu, vSn⟩ := xw
  obtain ⟨y1, y2, y3, y4, y5⟩ := b1.bare
  simp only at y1 y2 y3 y4 y5
  subst y1 y2 y3 y4 y5
  obtain ⟨A, cp, hA⟩ := b1.L.form
  replace hA : vL = .slice A 23 cp := hA
  subst hA
  rw [cells_first]
  go_upto_region 2 with (fail)
  refine wp_name (fun w2 hW => ?_)
  have xb : Ext w1 w2 := by rw [hW]; exact is_ext _ _
  have B2 : BAt w2 w.heap.size w1.heap.size firstW ⟨.slice A 23 cp, fs, .slice none 0 0, .slice none 0 0, .slice none 0 0, .slice none 0 0, .slice none 0 0⟩ := ⟨by rw [hW]; exact Blk.new _ _ _, b1.ext xb⟩
  have X2 := Lib.hid (x1'.trans xb)
  have BH := Lib.hid B2
  have s1 := x1'.below.size
  clear hW B2 b1 x1' xb
  generalize hb : w1.heap.size = b at *
  clear hb
  have W0 : Hid (∃ x, WKL w w2 b z0 0 (.slice none 0 0) (.slice none 0 0) x) := Lib.hid ⟨_, X2.out, BH.out, s1, OwnI.nil _ _, OwnT.nil _ _⟩
  clear X2 BH
  go_wp2_with fail
  go_loopw [4, 5, 6, 7] (fun v4 nv v6 iv wr => ∃ k : Nat, k ≤ 30 ∧ k ≤ len0 ∧ iv = .int .i64 k ∧ nv = .int .i64 (nextO k) ∧ (∃ A4 c4 A6 c6, v4 = .slice A4 k c4 ∧ v6 = .slice A6 k c6) ∧ ∃ x, WKL w wr b z0 k v4 v6 x) (fun _ _ _ iv _ => 30 - (intOf iv).toNat)
  case atStart => exact ⟨0, by omega, by omega, rfl, rfl, ⟨_, _, _, _, rfl, rfl⟩, W0.out⟩
  case round =>
    obtain ⟨k, hk, hkl, rfl, rfl, ⟨A4, c4, A6, c6, rfl, rfl⟩, xk, L⟩ := hrel
    have LH := Lib.hid L
    by_cases hc : k < 30 ∧ k < len0
    · obtain ⟨hc1, hc2⟩ := hc
      have i30 : (k : Int) < 30 := by omega
      have iL : (k : Int) < (len0 : Int) := by omega
      obtain ⟨bz, oz, rfl, hbz, cz, wz⟩ := HR.out k hc2
      have c0 := (L.x.below.cell (p := ⟨bz, oz + k, none⟩) hbz).trans cz
      have hbr := Nat.lt_of_lt_of_le hbz L.x.below.size
      have wz := bounds_i64 wz
      have EI : Hid (isW z0 k = decide ((z0.getD k 0).tmod 3 = 0)) := rfl
      generalize z0.getD k 0 = z at *
      have hm : ((z.tmod 3) == 0) = isW z0 k := by rw [EI.out]; rfl
      have DH := Lib.hid (fun (w4 : World) (y : Ext wr w4) vF hF hy => badd (w := w4) (vF := vF) (F := [num k, objV (nextO k)]) (LH.out.B.ext y) (Nat.le_trans LH.out.x.below.size y.below.size) hF hy (clsW (isW z0 k)) (fmtW (isW z0 k)) ByteArray.empty (by rw [(weak_len z0 k).1]; omega) (by rw [(weak_len z0 k).2]; omega))
      clear cz L
      cases hq : isW z0 k with
      | true =>
        rw [hq] at hm
        go_upto_region 12 with (fail)
        go_wp2_with ((first | (go_at_call 10; refine (HN.out _ _).mono ?_; rintro e w3 ⟨rfl, x3⟩; have i3 : IsExt wr w3 := ⟨(is_ext wr _).trans x3⟩; clear x3) | (go_at_call 11; refine (HO.out _ _).mono ?_; rintro e w3 ⟨rfl, x3⟩; have i3 : IsExt wr w3 := ⟨(is_ext wr _).trans x3⟩; clear x3)))
        refine wp_name_calls (fun w4 hW => ?_)
        have x4 : Ext wr w4 := by rw [hW]; exact is_ext _ _
        have b4 : Blk w4 w3.heap.size 37 (flat 2 2 (cF [num k, objV (nextO k)])).toArray := by rw [hW]; exact Blk.new _ _ _
        have D := DH.out w4 x4 _ (row_flat (n := 2) b4 (by omega)) (typ_blk b4)
        rw [hq] at D
        have DQ := Lib.hid D
        have L4 : Hid (WKL w w4 b z0 k (.slice A4 k c4) (.slice A6 k c6) xk) := Lib.hid ⟨LH.out.x.trans x4, LH.out.B.ext x4, LH.out.hb, LH.out.ids.ext x4, LH.out.wk.ext x4⟩
        clear hW b4 D x4
        refine DQ.out.mono ?_
        rintro e wA ⟨rfl, hp⟩
        have P := L4.out.add (by rw [hq]; exact hp)
        have PH := Lib.hid P
        clear P hp DQ L4
        rw [(weak_len z0 k).1]
        obtain ⟨x', XA, BA, IA, TA⟩ := PH.out
        have XAH := Lib.hid XA
        have BAH := Lib.hid BA
        have IAH := Lib.hid IA
        have TAH := Lib.hid TA
        have sA := XA.below.size
        have o2 := IA
        unfold OwnI at o2
        rw [idsW_len] at o2
        have O2 := Lib.hid (o2.alloc (.cells #[.int .i64 ((23 + k : Nat) : Int)] 3))
        clear XA BA IA TA o2 PH c0 hbr
        go_wp2_with ((first | (at_builtin; refine wpList_append_lies _ rfl _ _ _ rfl w.heap.size 3 i0 (.int .i64 0) 1 8 Try.underlying22 hi0 hz0 hz1 hz2 rfl (by decide) _ _ _ (by rfl) O2.out ⟨wA.heap.size, 0, none⟩ 1 1 [.int .i64 ((23 + k : Nat) : Int)] (by rfl) (by rfl) (World.news_of_block (heap_alloc_new wA _)) (by simp [Value.oneCell']) (by omega) (by unfold maxLen; omega) (by omega) (by simp; omega) (wA.heap.size + 1) (by simp) ?_; intro gg cc w5 o5 g5 hat5 hlt5; have O5 := Lib.hid o5; have K5 := Lib.hid (grow_kt IAH.out.own g5); have X5 := Lib.hid (own_ext XAH.out IAH.out.own g5); have s5 := X5.out.below.size; have T5 := TAH.out.kt K5.out (by decide); have T5H := Lib.hid T5; unfold OwnT at T5; rw [wkW_len] at T5; have O6 := Lib.hid (T5.alloc (.cells #[.bool true] 4)); clear o5 g5 hat5 T5) | (at_builtin; refine wpList_append_lies _ rfl _ _ _ rfl w.heap.size 4 ib (.bool false) 1 1 Try.underlying25 hib hb0 hb1 hb2 rfl (by decide) _ _ _ (by rfl) O6.out ⟨w5.heap.size, 0, none⟩ 1 1 [.bool true] (by rfl) (by rfl) (World.news_of_block (heap_alloc_new w5 _)) (by simp [Value.oneCell']) (by omega) (by unfold maxLen; omega) (by omega) (by simp; omega) (w5.heap.size + 1) (by simp) ?_; intro gg6 cc6 w6 o6 g6 hat6 hlt6; have O7 := Lib.hid o6; have K6 := Lib.hid (grow_kt T5H.out.own g6); have X6 := Lib.hid (own_ext X5.out T5H.out.own g6); clear o6 g6 hat6)))
        have F : Hid (WKL w w6 b z0 (k + 1) (.slice (some ⟨gg, 0, none⟩) (k + 1) cc) (.slice (some ⟨gg6, 0, none⟩) (k + 1) cc6) x') := Lib.hid
          ⟨X6.out, (BAH.out.kt K5.out (by decide) (by decide) (by decide)).kt K6.out (by decide) (by decide) (by decide), LH.out.hb,
           OwnI.kt (show OwnI w5 w.heap.size _ (idsW (k + 1)) from by unfold OwnI; rw [idsW_len, idsW_succ, List.map_append]; exact O5.out) K6.out (by decide),
           by unfold OwnT; rw [wkW_len, wkW_succ, List.map_append, hq]; exact O7.out⟩
        go_roundw
        case rel => exact ⟨k + 1, by omega, by omega, by go_num, by rw [nextO_succ]; first | rfl | (congr 1; omega) | simp, ⟨_, _, _, _, rfl, rfl⟩, _, F.out⟩
        case measure => simp [intOf]; omega
      | false =>
        rw [hq] at hm
        go_upto_region 12 with (fail)
        go_wp2_with ((first | (go_at_call 10; refine (HN.out _ _).mono ?_; rintro e w3 ⟨rfl, x3⟩; have i3 : IsExt wr w3 := ⟨(is_ext wr _).trans x3⟩; clear x3) | (go_at_call 11; refine (HO.out _ _).mono ?_; rintro e w3 ⟨rfl, x3⟩; have i3 : IsExt wr w3 := ⟨(is_ext wr _).trans x3⟩; clear x3)))
        refine wp_name_calls (fun w4 hW => ?_)
        have x4 : Ext wr w4 := by rw [hW]; exact is_ext _ _
        have b4 : Blk w4 w3.heap.size 37 (flat 2 2 (cF [num k, objV (nextO k)])).toArray := by rw [hW]; exact Blk.new _ _ _
        have D := DH.out w4 x4 _ (row_flat (n := 2) b4 (by omega)) (typ_blk b4)
        rw [hq] at D
        have DQ := Lib.hid D
        have L4 : Hid (WKL w w4 b z0 k (.slice A4 k c4) (.slice A6 k c6) xk) := Lib.hid ⟨LH.out.x.trans x4, LH.out.B.ext x4, LH.out.hb, LH.out.ids.ext x4, LH.out.wk.ext x4⟩
        clear hW b4 D x4
        refine DQ.out.mono ?_
        rintro e wA ⟨rfl, hp⟩
        have P := L4.out.add (by rw [hq]; exact hp)
        have PH := Lib.hid P
        clear P hp DQ L4
        rw [(weak_len z0 k).1]
        obtain ⟨x', XA, BA, IA, TA⟩ := PH.out
        have XAH := Lib.hid XA
        have BAH := Lib.hid BA
        have IAH := Lib.hid IA
        have TAH := Lib.hid TA
        have sA := XA.below.size
        have o2 := IA
        unfold OwnI at o2
        rw [idsW_len] at o2
        have O2 := Lib.hid (o2.alloc (.cells #[.int .i64 ((23 + k : Nat) : Int)] 3))
        clear XA BA IA TA o2 PH c0 hbr
        go_wp2_with ((first | (at_builtin; refine wpList_append_lies _ rfl _ _ _ rfl w.heap.size 3 i0 (.int .i64 0) 1 8 Try.underlying22 hi0 hz0 hz1 hz2 rfl (by decide) _ _ _ (by rfl) O2.out ⟨wA.heap.size, 0, none⟩ 1 1 [.int .i64 ((23 + k : Nat) : Int)] (by rfl) (by rfl) (World.news_of_block (heap_alloc_new wA _)) (by simp [Value.oneCell']) (by omega) (by unfold maxLen; omega) (by omega) (by simp; omega) (wA.heap.size + 1) (by simp) ?_; intro gg cc w5 o5 g5 hat5 hlt5; have O5 := Lib.hid o5; have K5 := Lib.hid (grow_kt IAH.out.own g5); have X5 := Lib.hid (own_ext XAH.out IAH.out.own g5); have s5 := X5.out.below.size; have T5 := TAH.out.kt K5.out (by decide); have T5H := Lib.hid T5; unfold OwnT at T5; rw [wkW_len] at T5; have O6 := Lib.hid (T5.alloc (.cells #[.bool false] 4)); clear o5 g5 hat5 T5) | (at_builtin; refine wpList_append_lies _ rfl _ _ _ rfl w.heap.size 4 ib (.bool false) 1 1 Try.underlying25 hib hb0 hb1 hb2 rfl (by decide) _ _ _ (by rfl) O6.out ⟨w5.heap.size, 0, none⟩ 1 1 [.bool false] (by rfl) (by rfl) (World.news_of_block (heap_alloc_new w5 _)) (by simp [Value.oneCell']) (by omega) (by unfold maxLen; omega) (by omega) (by simp; omega) (w5.heap.size + 1) (by simp) ?_; intro gg6 cc6 w6 o6 g6 hat6 hlt6; have O7 := Lib.hid o6; have K6 := Lib.hid (grow_kt T5H.out.own g6); have X6 := Lib.hid (own_ext X5.out T5H.out.own g6); clear o6 g6 hat6)))
        have F : Hid (WKL w w6 b z0 (k + 1) (.slice (some ⟨gg, 0, none⟩) (k + 1) cc) (.slice (some ⟨gg6, 0, none⟩) (k + 1) cc6) x') := Lib.hid
          ⟨X6.out, (BAH.out.kt K5.out (by decide) (by decide) (by decide)).kt K6.out (by decide) (by decide) (by decide), LH.out.hb,
           OwnI.kt (show OwnI w5 w.heap.size _ (idsW (k + 1)) from by unfold OwnI; rw [idsW_len, idsW_succ, List.map_append]; exact O5.out) K6.out (by decide),
           by unfold OwnT; rw [wkW_len, wkW_succ, List.map_append, hq]; exact O7.out⟩
        go_roundw
        case rel => exact ⟨k + 1, by omega, by omega, by go_num, by rw [nextO_succ]; first | rfl | (congr 1; omega) | simp, ⟨_, _, _, _, rfl, rfl⟩, _, F.out⟩
        case measure => simp [intOf]; omega
    · have hk2 := hk
      go_upto_region 6 with (fail)
      go_cut [25] from 18 to 25 (fun v wx => v = .bool false ∧ wx = wr)
      case first =>
        by_cases h1 : k < len0
        · have i1 : (k : Int) < (len0 : Int) := by omega
          have i2 : (30 : Int) ≤ (k : Int) := by omega
          clear L
          go_wp2_with fail
          go_meet
          exact ⟨by first | rfl | (simp; omega), rfl⟩
        · have i1 : (len0 : Int) ≤ (k : Int) := by omega
          clear L
          go_wp2_with fail
          go_meet
          exact ⟨by first | rfl | (simp; omega), rfl⟩
      case rest =>
        obtain ⟨rfl, rfl⟩ := hcut
        obtain ⟨vL, fs', vD, vRe, vWa, vDu, vSn⟩ := xk
        obtain ⟨y1, y2, y3, y4, y5⟩ := L.B.bu.bare
        simp only at y1 y2 y3 y4 y5
        subst y1 y2 y3 y4 y5
        obtain ⟨AL, cL, hA⟩ := L.B.bu.L.form
        replace hA : vL = .slice AL (weakW z0 k).L.length cL := hA
        rw [(weak_len z0 k).1] at hA
        subst hA
        obtain ⟨p1, p2, p3⟩ := L.B.blk.rules
        rw [weak_cells] at p1
        clear L HN HO HR
        go_upto_region 15 with (fail)
        refine wp_name (fun w5 hW => ?_)
        have B5 : BAt w5 w.heap.size b (endW z0 k) (⟨.slice AL (23 + k) cL, fs', .slice none 0 0, .slice none 0 0, .slice none 0 0, .slice none 0 0, .slice none 0 0⟩ : WV) := by rw [hW]; exact LH.out.B.frame
        have kt5 : KT [34] wc w5 := by
          rw [hW]
          exact ((Keep.refl (· = b) wc).setCell (p := ⟨b, 4, none⟩) rfl _).mono (fun j hj => ⟨_, _, List.mem_singleton_self _, hj ▸ LH.out.B.blk⟩)
        have x5 : Ext w w5 := by rw [hW]; exact LH.out.x.setNew (p := ⟨b, 4, none⟩) LH.out.hb _
        have I5 := Lib.hid ((LH.out.ids.kt kt5 (by decide)).ints)
        have T5 := Lib.hid ((LH.out.wk.kt kt5 (by decide)).own.row)
        have WA := Lib.hid (B5.bu.at_ (nums_of_check (end_check z0 k hk2)))
        have BB := Lib.hid B5.blk
        have X5 := Lib.hid x5
        clear hW B5 kt5 x5 p1 p2 p3 LH
        have EC := Lib.hid (end_check z0 k hk2)
        have EL : Hid ((endW z0 k).L.length = 23 + k) := Lib.hid (weak_len z0 k).1
        have CSt := Lib.hid (fun W2 (y : Ext w5 W2) => strong_ (WA.out.ext y))
        have CAl := Lib.hid (fun W2 (y : Ext w5 W2) => all_ (WA.out.ext y))
        simp only [end_cells] at CSt CAl
        obtain ⟨r1, r2, r3⟩ := BB.out.rules
        rw [end_cells] at r1
        simp only at r1
        generalize hn : 23 + k = n at *
        have HNN := Lib.hid hn
        clear hn
        have q0 : w5.cell? ⟨b, 0, none⟩ = some (.slice AL n cL) := r1 0
        have q1 : w5.cell? ⟨b, 1, none⟩ = some (.slice none 0 0) := r1 1
        have q2 : w5.cell? ⟨b, 2, none⟩ = some (.int .i64 (n : Int)) := r1 2
        have q3 : w5.cell? ⟨b, 3, none⟩ = some (.int .i64 0) := r1 3
        have q4 : w5.cell? ⟨b, 4, none⟩ = some (.int .i64 (nextO k)) := r1 4
        have q5 : w5.cell? ⟨b, 5, none⟩ = some (.slice none 0 0) := r1 5
        have q6 : w5.cell? ⟨b, 6, none⟩ = some (.slice none 0 0) := r1 6
        have q7 : w5.cell? ⟨b, 7, none⟩ = some (.slice none 0 0) := r1 7
        have q8 : w5.cell? ⟨b, 8, none⟩ = some (.string ByteArray.empty) := r1 8
        have q9 : w5.cell? ⟨b, 9, none⟩ = some (.string ByteArray.empty) := r1 9
        have q10 : w5.cell? ⟨b, 10, none⟩ = some (.int .i64 0) := r1 10
        have q11 : w5.cell? ⟨b, 11, none⟩ = some (.int .i64 0) := r1 11
        have q12 : w5.cell? ⟨b, 12, none⟩ = some (.slice none 0 0) := r1 12
        clear r1
        go_cut [11, 12] from 58 to 67 (fun v11 v12 wx => ∃ ls la gs ga, v11 = .slice (some ⟨gs, 0, none⟩) n n ∧ v12 = .slice (some ⟨ga, 0, none⟩) n n ∧ RchL (endW z0 k).L.length (nxW (endW z0 k) false) (rootsOf (endW z0 k).R) ls ∧ RchL (endW z0 k).L.length (nxW (endW z0 k) true) (rootsOf (endW z0 k).R) la ∧ Blk wx gs 4 (ls.map Value.bool).toArray ∧ Blk wx ga 4 (la.map Value.bool).toArray ∧ Ext w5 wx)
        case first =>
          go_region_held3 (fun w' => w'.cell? ⟨b, 0, none⟩ = some (.slice AL n cL) ∧ w'.cell? ⟨b, 1, none⟩ = some (.slice none 0 0) ∧ w'.cell? ⟨b, 2, none⟩ = some (.int .i64 (n : Int)) ∧ w'.cell? ⟨b, 3, none⟩ = some (.int .i64 0) ∧ w'.cell? ⟨b, 4, none⟩ = some (.int .i64 (nextO k)) ∧ w'.cell? ⟨b, 5, none⟩ = some (.slice none 0 0) ∧ w'.cell? ⟨b, 6, none⟩ = some (.slice none 0 0) ∧ w'.cell? ⟨b, 7, none⟩ = some (.slice none 0 0) ∧ w'.cell? ⟨b, 8, none⟩ = some (.string ByteArray.empty) ∧ w'.cell? ⟨b, 9, none⟩ = some (.string ByteArray.empty) ∧ w'.cell? ⟨b, 10, none⟩ = some (.int .i64 0) ∧ w'.cell? ⟨b, 11, none⟩ = some (.int .i64 0) ∧ w'.cell? ⟨b, 12, none⟩ = some (.slice none 0 0)) (first | go_keep | with_reducible exact ⟨((is_ext w5 _).below.cell (p := ⟨b, 0, none⟩) r3).trans q0, ((is_ext w5 _).below.cell (p := ⟨b, 1, none⟩) r3).trans q1, ((is_ext w5 _).below.cell (p := ⟨b, 2, none⟩) r3).trans q2, ((is_ext w5 _).below.cell (p := ⟨b, 3, none⟩) r3).trans q3, ((is_ext w5 _).below.cell (p := ⟨b, 4, none⟩) r3).trans q4, ((is_ext w5 _).below.cell (p := ⟨b, 5, none⟩) r3).trans q5, ((is_ext w5 _).below.cell (p := ⟨b, 6, none⟩) r3).trans q6, ((is_ext w5 _).below.cell (p := ⟨b, 7, none⟩) r3).trans q7, ((is_ext w5 _).below.cell (p := ⟨b, 8, none⟩) r3).trans q8, ((is_ext w5 _).below.cell (p := ⟨b, 9, none⟩) r3).trans q9, ((is_ext w5 _).below.cell (p := ⟨b, 10, none⟩) r3).trans q10, ((is_ext w5 _).below.cell (p := ⟨b, 11, none⟩) r3).trans q11, ((is_ext w5 _).below.cell (p := ⟨b, 12, none⟩) r3).trans q12⟩) ((first | (go_at_call 12; refine (CSt.out _ (is_ext w5 _)).mono ?_; rintro e w6 ⟨v, rfl, hv, x6⟩; obtain ⟨ls, gs, rfl, hls, bs, _⟩ := hv.yes EC.out; rw [EL.out]; have i6 : IsExt w5 w6 := ⟨(is_ext w5 _).trans x6⟩; have X6H := Lib.hid x6; have BS := Lib.hid bs; have HS := Lib.hid hls; clear x6 bs hls hv) | (go_at_call 13; refine (CAl.out _ (is_ext w5 _)).mono ?_; rintro e w7 ⟨v, rfl, hv, x7⟩; obtain ⟨la, ga, rfl, hla, ba, _⟩ := hv.yes EC.out; rw [EL.out]; have i7 : IsExt w5 w7 := ⟨(is_ext w5 _).trans x7⟩; have X7H := Lib.hid x7; have BA := Lib.hid ba; have HA := Lib.hid hla; clear x7 ba hla hv)))
          all_goals
            go_wp2_with fail
            go_meet
            first
              | exact ⟨ls, la, gs, ga, rfl, rfl, HS.out, HA.out, (BS.out.ext ((is_ext w6 _).trans X7H.out)).ext (is_ext w7 _), BA.out.ext (is_ext w7 _), is_ext w5 _⟩
              | exact ⟨ls, la, gs, ga, rfl, rfl, HS.out, HA.out, BS.out.ext (is_ext w6 _), (BA.out.ext ((is_ext w7 _).trans X6H.out)).ext (is_ext w6 _), is_ext w5 _⟩
        case rest =>
          obtain ⟨ls, la, gs, ga, rfl, rfl, hls, hla, bs, ba, xc⟩ := hcut
          have HI : Hid (∀ p, p < k → ∃ b4 o4, A4 = some ⟨b4, o4, none⟩ ∧ b4 < w5.heap.size ∧ w5.cell? ⟨b4, o4 + p, none⟩ = some (.int .i64 ((23 + p : Nat) : Int))) := Lib.hid (fun p hp => by
            have q := I5.out
            unfold IntsAt at q
            rw [idsW_len] at q
            obtain ⟨b4, o4, e4, hb4, hc4⟩ := Row.at_ q p hp
            have c := hc4 0 (by omega)
            rw [idsW_at k p hp] at c
            exact ⟨b4, o4, e4, hb4, by simpa using c⟩)
          have HT : Hid (∀ p, p < k → ∃ b6 o6, A6 = some ⟨b6, o6, none⟩ ∧ b6 < w5.heap.size ∧ w5.cell? ⟨b6, o6 + p, none⟩ = some (.bool (isW z0 p))) := Lib.hid (fun p hp => by
            have q := T5.out
            rw [wkW_len] at q
            obtain ⟨b6, o6, e6, hb6, hc6⟩ := Row.at_ q p hp
            have c := hc6 0 (by omega)
            rw [wkW_at z0 k p hp] at c
            exact ⟨b6, o6, e6, hb6, by simpa using c⟩)
          have HSs : Hid (∀ W, Ext wc W → ∀ p, p < k → W.cell? ⟨gs, 23 + p, none⟩ = some (.bool (stJ z0 k (p + 1))) ∧ gs < W.heap.size) := Lib.hid (fun W y p hp => by
            have q := cell_sB (bs.ext y) (23 + p) (by rw [hls.1, EL.out]; have := HNN.out; omega)
            rw [end_list z0 k hk2 false hls p hp, Bool.false_or, st_stJ] at q
            exact ⟨q, (bs.ext y).lt⟩)
          have HSa : Hid (∀ W, Ext wc W → ∀ p, p < k → W.cell? ⟨ga, 23 + p, none⟩ = some (.bool true) ∧ ga < W.heap.size) := Lib.hid (fun W y p hp => by
            have q := cell_sB (ba.ext y) (23 + p) (by rw [hla.1, EL.out]; have := HNN.out; omega)
            rw [end_list z0 k hk2 true hla p hp, Bool.true_or] at q
            exact ⟨q, (ba.ext y).lt⟩)
          have XC := Lib.hid xc
          have BC := Lib.hid (BB.out.ext xc)
          have SJ0 := Lib.hid (stJ_end z0 k)
          have SJD := Lib.hid (stJ_down z0 k)
          clear q0 q1 q2 q3 q4 q5 q6 q7 q8 q9 q10 q11 q12 r2 r3 hls hla bs ba xc I5 T5 CSt CAl
          obtain ⟨r1, r2, r3⟩ := BC.out.rules
          rw [end_cells, HNN.out] at r1
          simp only at r1
          have hkI : IntKind.i64.wrap ((k : Int) - 1) = (k : Int) - 1 := by simp (disch := omega) only [IntWalk.i64_in]
          go_wp2_with fail
          go_loopw [13, 14] (fun sv iv wr => ∃ j : Nat, j ≤ k ∧ iv = .int .i64 ((j : Int) - 1) ∧ sv = .bool (stJ z0 k j) ∧ Ext wc wr) (fun _ iv _ => (intOf iv + 1).toNat)
          case atStart => exact ⟨k, Nat.le_refl _, rfl, by rw [SJ0.out], Ext.refl _⟩
          case round =>
            obtain ⟨j, hj, rfl, rfl, xr⟩ := hrel
            have XR := Lib.hid xr
            cases j with
            | zero =>
              rw [show (((0 : Nat) : Int) - 1) = -1 from rfl]
              have BR := Lib.hid (BC.out.ext xr)
              clear r1 r2 r3
              obtain ⟨r1, r2, r3⟩ := BR.out.rules
              rw [end_cells, HNN.out] at r1
              simp only at r1
              have q0 : wr.cell? ⟨b, 0, none⟩ = some (.slice AL n cL) := r1 0
              have q1 : wr.cell? ⟨b, 1, none⟩ = some (.slice none 0 0) := r1 1
              have q2 : wr.cell? ⟨b, 2, none⟩ = some (.int .i64 (n : Int)) := r1 2
              have q3 : wr.cell? ⟨b, 3, none⟩ = some (.int .i64 0) := r1 3
              have q4 : wr.cell? ⟨b, 4, none⟩ = some (.int .i64 (nextO k)) := r1 4
              have q5 : wr.cell? ⟨b, 5, none⟩ = some (.slice none 0 0) := r1 5
              have q6 : wr.cell? ⟨b, 6, none⟩ = some (.slice none 0 0) := r1 6
              have q7 : wr.cell? ⟨b, 7, none⟩ = some (.slice none 0 0) := r1 7
              have q8 : wr.cell? ⟨b, 8, none⟩ = some (.string ByteArray.empty) := r1 8
              have q9 : wr.cell? ⟨b, 9, none⟩ = some (.string ByteArray.empty) := r1 9
              have q10 : wr.cell? ⟨b, 10, none⟩ = some (.int .i64 0) := r1 10
              have q11 : wr.cell? ⟨b, 11, none⟩ = some (.int .i64 0) := r1 11
              have q12 : wr.cell? ⟨b, 12, none⟩ = some (.slice none 0 0) := r1 12
              have WR := Lib.hid (WA.out.ext (XC.out.trans xr))
              have CCn := Lib.hid (fun W2 (y : Ext wr W2) => canonP (WR.out.ext y) EC.out)
              have CKn := Lib.hid (fun W2 (y : Ext wr W2) => check7 (WR.out.ext y))
              simp only [end_cells, HNN.out] at CCn CKn
              rw [EC.out] at CKn
              have hfd := field_L
              clear r1 xr
              go_upto_region 25 with (fail)
              go_region_held3 (fun w' => w'.cell? ⟨b, 0, none⟩ = some (.slice AL n cL) ∧ w'.cell? ⟨b, 1, none⟩ = some (.slice none 0 0) ∧ w'.cell? ⟨b, 2, none⟩ = some (.int .i64 (n : Int)) ∧ w'.cell? ⟨b, 3, none⟩ = some (.int .i64 0) ∧ w'.cell? ⟨b, 4, none⟩ = some (.int .i64 (nextO k)) ∧ w'.cell? ⟨b, 5, none⟩ = some (.slice none 0 0) ∧ w'.cell? ⟨b, 6, none⟩ = some (.slice none 0 0) ∧ w'.cell? ⟨b, 7, none⟩ = some (.slice none 0 0) ∧ w'.cell? ⟨b, 8, none⟩ = some (.string ByteArray.empty) ∧ w'.cell? ⟨b, 9, none⟩ = some (.string ByteArray.empty) ∧ w'.cell? ⟨b, 10, none⟩ = some (.int .i64 0) ∧ w'.cell? ⟨b, 11, none⟩ = some (.int .i64 0) ∧ w'.cell? ⟨b, 12, none⟩ = some (.slice none 0 0)) (first | go_keep | with_reducible exact ⟨((is_ext wr _).below.cell (p := ⟨b, 0, none⟩) r3).trans q0, ((is_ext wr _).below.cell (p := ⟨b, 1, none⟩) r3).trans q1, ((is_ext wr _).below.cell (p := ⟨b, 2, none⟩) r3).trans q2, ((is_ext wr _).below.cell (p := ⟨b, 3, none⟩) r3).trans q3, ((is_ext wr _).below.cell (p := ⟨b, 4, none⟩) r3).trans q4, ((is_ext wr _).below.cell (p := ⟨b, 5, none⟩) r3).trans q5, ((is_ext wr _).below.cell (p := ⟨b, 6, none⟩) r3).trans q6, ((is_ext wr _).below.cell (p := ⟨b, 7, none⟩) r3).trans q7, ((is_ext wr _).below.cell (p := ⟨b, 8, none⟩) r3).trans q8, ((is_ext wr _).below.cell (p := ⟨b, 9, none⟩) r3).trans q9, ((is_ext wr _).below.cell (p := ⟨b, 10, none⟩) r3).trans q10, ((is_ext wr _).below.cell (p := ⟨b, 11, none⟩) r3).trans q11, ((is_ext wr _).below.cell (p := ⟨b, 12, none⟩) r3).trans q12⟩) ((first | (go_at_call 14; refine (CCn.out _ (is_ext wr _)).mono ?_; rintro e w6 ⟨cs, rfl, hcs, x6⟩; obtain ⟨lq, xq, rq, rfl, nq⟩ := hcs; obtain ⟨vq, fq, dq, req, waq, duq, snq⟩ := xq; obtain ⟨Aq, cq, eq⟩ := Own.form nq.L; simp only at eq; rw [end_canon z0 k hk2 rq, EL.out] at eq; subst eq; unfold cellsW; have i6 : IsExt wr w6 := ⟨(is_ext wr _).trans x6⟩; clear x6 rq nq) | (go_at_call 15; refine (CKn.out _ (is_ext wr _)).mono ?_; rintro e w6 ⟨rfl, x6⟩; have i6 : IsExt wr w6 := ⟨(is_ext wr _).trans x6⟩; clear x6) | (go_at_call 16; refine (awake8 _).mono ?_; rintro e w6 ⟨rfl, x6⟩; have i6 : IsExt wr w6 := ⟨(is_ext wr _).trans x6⟩; clear x6)))
              go_wp2_with fail
              go_ret
              exact ⟨ret_bool rfl, (((X5.out.trans XC.out).trans XR.out).trans (is_ext wr _)).below⟩
            | succ p =>
              have hp : p < k := by omega
              rw [show (((p + 1 : Nat) : Int) - 1) = (p : Int) by omega]
              obtain ⟨b4, o4, rfl, hb4, c4'⟩ := HI.out p hp
              obtain ⟨b6, o6, rfl, hb6, c6'⟩ := HT.out p hp
              replace c4' := ((XC.out.trans xr).below.cell (p := ⟨b4, o4 + p, none⟩) hb4).trans c4'
              replace c6' := ((XC.out.trans xr).below.cell (p := ⟨b6, o6 + p, none⟩) hb6).trans c6'
              have h4 := Nat.lt_of_lt_of_le hb4 (XC.out.trans xr).below.size
              have h6 := Nat.lt_of_lt_of_le hb6 (XC.out.trans xr).below.size
              obtain ⟨cs, hgs⟩ := HSs.out wr xr p hp
              obtain ⟨ca, hga⟩ := HSa.out wr xr p hp
              have hm : ((23 + p : Nat) : Int) < (n : Int) := by have := HNN.out; omega
              have hm0 : (0 : Int) ≤ ((23 + p : Nat) : Int) := by omega
              have hpk : (p : Int) < (k : Int) := by omega
              have hp0 : (0 : Int) ≤ (p : Int) := by omega
              have hpI : IntKind.i64.wrap ((p : Int) - 1) = (p : Int) - 1 := by simp (disch := omega) only [IntWalk.i64_in]
              have DN := Lib.hid (SJD.out p hp)
              clear xr hb4 hb6
              generalize 23 + p = m at *
              generalize stJ z0 k (p + 1) = sj at *
              generalize isW z0 p = wp at *
              cases sj with
              | false =>
                go_wp2_with fail
                go_roundw
                case rel => exact ⟨p, by omega, rfl, by rw [DN.out]; rfl, XR.out.trans (is_ext _ _)⟩
                case measure => simp [intOf] <;> omega
              | true =>
                go_wp2_with fail
                go_roundw
                case rel => exact ⟨p, by omega, rfl, by rw [DN.out]; simp, XR.out.trans (is_ext _ _)⟩
                case measure => simp [intOf] <;> omega
end Go.Proofs.Ytadhkmplhgcgkaa.World
