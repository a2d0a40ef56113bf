/-
  First, as one text (a claim has at most 60 files).
-/
import Derived.Test.YtjpalcejmloocaaGreatCt34
import Derived.Test.YtjpalcejmloocaaGreatCt18
import Derived.Deep.RegionHeld3
import Derived.Deep.DeepCutAuto
import Derived.Deep.CutRange
import Derived.Deep.CutBlock
namespace Go.Proofs.YtjpalcejmloocaaGreat.World
open Go.RowKit Go.Proofs.YtjpalcejmloocaaGreat.Plain
set_option linter.unusedVariables false
attribute [local go_sem ↓] Go.wp_at_zero Go.wp_at_succ

theorem lnum (n : Int) (w : World) : Calls Tryz.prog 19 #[.int .i64 n] w fun e w' => e = .returned (val (num n)) ∧ Ext w w' := by
  unfold val num
  go_enter Tryz.func19, Tryz.ntmps19
  go_wp2
  refine bodyPost_ret (v := .agg #[.bool false, .int .i64 n]) (by simp [results, Tryz.results19, go_sem]) rfl ⟨rfl, is_ext _ _⟩
theorem lobj (n : Int) (w : World) : Calls Tryz.prog 8 #[.int .i64 n] w fun e w' => e = .returned (val (objV n)) ∧ Ext w w' := by
  unfold val objV
  go_enter Tryz.func8, Tryz.ntmps8
  go_wp2
  refine bodyPost_ret (v := .agg #[.bool true, .int .i64 n]) (by simp [results, Tryz.results8, go_sem]) rfl ⟨rfl, is_ext _ _⟩
/-- a world that is being built: its list of things is its own, its other lists are none -/
structure Built (w : World) (lo : Nat) (W : PW) (x : WV) : Prop where
  L : Own w lo 49 x.L W.L.length 6 (cL W.L x.fs)
  fs : ∀ i, i < W.L.length → ValsAt w (x.fs i) (tAt W.L i).F
  fsT : ∀ i, i < W.L.length → Typ w (x.fs i) 38
  bare : x.dead = .slice none 0 0 ∧ x.ready = .slice none 0 0 ∧ x.wait = .slice none 0 0 ∧ x.due = .slice none 0 0 ∧ x.snaps = .slice none 0 0
  plain : W.dead = [] ∧ W.R.ready = [] ∧ W.R.wait = [] ∧ W.R.due = [] ∧ W.R.snaps = []
theorem Built.ext {w w' : World} {lo : Nat} {W : PW} {x : WV} (h : Built w lo W x) (e : Ext w w') : Built w' lo W x :=
  ⟨h.L.ext e, fun i hi => (h.fs i hi).ext e, fun i hi => (h.fsT i hi).ext e, h.bare, h.plain⟩
theorem row_nil (w : World) (sz : Nat) (c : Nat → Nat → Value) : Row w (.slice none 0 0) 0 sz c := ⟨none, 0, rfl, Nat.le_refl _, by omega, fun i hi => by omega⟩
theorem Built.at_ {w : World} {lo : Nat} {W : PW} {x : WV} (h : Built w lo W x) (hn : Nums W) : WorldAt w x W := by
  obtain ⟨b1, b2, b3, b4, b5⟩ := h.bare
  obtain ⟨p1, p2, p3, p4, p5⟩ := h.plain
  refine ⟨⟨h.L.row, h.fs⟩, ?_, ?_, ?_, ?_, ?_, hn⟩
  · rw [b1, p1]; exact row_nil _ _ _
  · rw [b2, p2]; exact row_nil _ _ _
  · rw [b3, p3]; exact row_nil _ _ _
  · rw [b4, p4]; exact row_nil _ _ _
  · rw [b5, p5]; exact row_nil _ _ _
/-- a list of things, one more appended -/
theorem own_more {w3 : World} {lo n gg c9 : Nat} {vF : Value} {L : List PT} {fs : Nat → Value} {t : PT} (hn : L.length = n) (o3 : w3.ownsRow lo 49 6 (.slice (some ⟨gg, 0, none⟩) (n + 1) c9) (n + 1) (flat n 6 (cL L fs) ++ [.int .i64 t.cls, .int .i64 t.fmt, .int .i64 t.hash, .bool t.fin, vF, .string t.B])) :
    Own w3 lo 49 (.slice (some ⟨gg, 0, none⟩) (n + 1) c9) (L ++ [t]).length 6 (cL (L ++ [t]) (fun i => if i = n then vF else fs i)) := by
  have e : (L ++ [t]).length = n + 1 := by rw [List.length_append, hn]; rfl
  rw [e]
  have o : Own w3 lo 49 (.slice (some ⟨gg, 0, none⟩) (n + 1) c9) (n + 1) 6 (fun i j => if i = n then cT t vF j else cL L fs i j) := by
    show w3.ownsRow _ _ _ _ _ _
    rw [flat_succ]
    have e1 : flat n 6 (fun i j => if i = n then cT t vF j else cL L fs i j) = flat n 6 (cL L fs) := by
      unfold flat
      refine List.map_congr_left fun q hq => ?_
      have hq := List.mem_range.1 hq
      have : q / 6 < n := Nat.div_lt_of_lt_mul (by omega)
      simp only
      rw [if_neg (by omega)]
    rw [e1]
    have e2 : (List.range 6).map (fun j => if n = n then cT t vF j else cL L fs n j) = [.int .i64 t.cls, .int .i64 t.fmt, .int .i64 t.hash, .bool t.fin, vF, .string t.B] := by
      have e3 : (fun j => if n = n then cT t vF j else cL L fs n j) = cT t vF := by funext j; rw [if_pos rfl]
      rw [e3]; rfl
    rw [e2]; exact o3
  refine o.congr fun i j hi hj => ?_
  by_cases h : i = n
  · subst h
    show (if i = i then cT t vF j else cL L fs i j) = cT (tAt (L ++ [t]) i) (if i = i then vF else fs i) j
    rw [if_pos rfl, if_pos rfl, MS.tAt_app, if_neg (by omega), if_pos hn.symm]
  · show (if i = n then cT t vF j else cL L fs i j) = cT (tAt (L ++ [t]) i) (if i = n then vF else fs i) j
    rw [if_neg h, if_neg h, MS.tAt_app, if_pos (by omega)]; rfl
theorem Blk.at_ {w : World} {g : Nat} (t : TypeId) (cs : Array Value) (hg : w.heap.size = g) : Blk (w.alloc (.cells cs t)) g t cs := hg ▸ Blk.new w t cs
theorem q_name {Q : Exit → Act → World → Prop} {e : Exit} {a : Act} {w : World} (h : ∀ W, W = w → Q e a W) : Q e a w := h w rfl
theorem q_name2 {R : Act → World → Prop} {a : Act} {w : World} (h : ∀ W, W = w → R a W) : R a w := h w rfl
theorem row_flat {w : World} {b n sz : Nat} {e : TypeId} {c : Nat → Nat → Value} (h : Blk w b e (flat n sz c).toArray) (hn : n ≤ 1000000) : Row w (.slice (some ⟨b, 0, none⟩) n n) n sz c := by
  refine ⟨_, _, rfl, Nat.le_refl _, by omega, fun i hi => ⟨b, 0, rfl, h.lt, fun j hj => ?_⟩⟩
  rw [h.cell, Nat.zero_add]
  have := flat_at n sz c i j hi hj
  simpa using this
theorem typ_blk {w : World} {b n cap : Nat} {e : TypeId} {cs : Array Value} (h : Blk w b e cs) : Typ w (.slice (some ⟨b, 0, none⟩) n cap) e := fun k hk => by
  simp [Value.ownBlock] at hk
  subst hk
  exact ⟨cs, h⟩
theorem firstL_at (n i : Nat) (h : i < n) : tAt (firstL n) i = firstT i := by unfold firstL tAt; simp [List.getD, h]
/-! ### First -/
def cells16 (l : List Int) : Array Value := (l.map (Value.int .i64)).toArray
theorem cells16_at (l : List Int) (q : Nat) (hq : q < l.length) : (cells16 l)[q]? = some (.int .i64 (l.getD q 0)) := by
  unfold cells16; simp [List.getD, hq]
def boxT (t : PT) (vF : Value) : Array Value := #[.int .i64 t.cls, .int .i64 t.fmt, .int .i64 t.hash, .bool t.fin, vF, .string t.B]
def zW (vL : Value) : Array Value := #[vL, .slice none 0 0, .int .i64 0, .int .i64 0, .int .i64 0, .slice none 0 0, .slice none 0 0, .slice none 0 0, .string ByteArray.empty, .string ByteArray.empty, .int .i64 0, .int .i64 0, .slice none 0 0]
structure FI (w wr : World) (k : Nat) (vL : Value) (fs : Nat → Value) : Prop where
  x : Ext w wr
  b0 : Blk wr w.heap.size 31 (zW (.slice none 0 0))
  b1 : Blk wr (w.heap.size + 1) 65 (cells16 sizes16)
  b2 : Blk wr (w.heap.size + 1 + 1) 65 (cells16 fmts16)
  b3 : Blk wr (w.heap.size + 1 + 1 + 1) 31 (zW vL)
  L : Own wr (w.heap.size + 1 + 1 + 1 + 1) 49 vL k 6 (cL (firstL k) fs)
  fv : ∀ i, i < k → ValsAt wr (fs i) (firstT i).F
  fy : ∀ i, i < k → Typ wr (fs i) 38
theorem FI.ext {w wr w' : World} {k : Nat} {vL : Value} {fs : Nat → Value} (h : FI w wr k vL fs) (x : Ext wr w') : FI w w' k vL fs :=
  ⟨h.x.trans x, h.b0.ext x, h.b1.ext x, h.b2.ext x, h.b3.ext x, h.L.ext x, fun i hi => (h.fv i hi).ext x, fun i hi => (h.fy i hi).ext x⟩
/-- a thing is made, and stands in its box -/
structure FB (w wr w1 : World) (k : Nat) (vL : Value) (fs : Nat → Value) (t : PT) (vF : Value) : Prop where
  i : FI w w1 k vL fs
  g : w.heap.size + 1 + 1 + 1 + 1 ≤ wr.heap.size
  b : Blk w1 wr.heap.size 49 (boxT t vF)
  v : ValsAt w1 vF t.F
  y : Typ w1 vF 38
  one : vF.oneCell' = true
  far : vL.ownBlock ≠ some wr.heap.size
theorem FB.push {w wr w1 w3 : World} {k gg c9 c : Nat} {A : Option Addr} {fs : Nat → Value} {vF : Value} (B : FB w wr w1 k (.slice A k c) fs (firstT k) vF) {ob : Obj} (g : (w1.alloc ob).grownBy w3 (Value.slice A k c).ownBlock)
    (hat : (Value.slice A k c).ownBlock = some gg ∨ gg = w1.heap.size + 1) (o3 : w3.ownsRow (w.heap.size + 1 + 1 + 1 + 1) 49 6 (.slice (some ⟨gg, 0, none⟩) (k + 1) c9) (k + 1) (flat k 6 (cL (firstL k) fs) ++ [.int .i64 (firstT k).cls, .int .i64 (firstT k).fmt, .int .i64 (firstT k).hash, .bool (firstT k).fin, vF, .string (firstT k).B])) :
    Blk w3 (w.heap.size + 1 + 1 + 1) 31 (zW (.slice A k c)) ∧ FI w (w3.setCell ⟨w.heap.size + 1 + 1 + 1, 0, none⟩ (.slice (some ⟨gg, 0, none⟩) (k + 1) c9)) (k + 1) (.slice (some ⟨gg, 0, none⟩) (k + 1) c9) (fun i => if i = k then vF else fs i) := by
  have L := B.i.L
  have kp := grow_keep g
  have kt := grow_kt L g
  have far : ∀ j, j < w.heap.size + 1 + 1 + 1 + 1 → ¬ (Value.slice A k c).ownBlock = some j := fun j hj e => by have := (L.block e).1; omega
  have b3 := B.i.b3.keep kp (far _ (by omega))
  have x3 : Ext w w3 := Ext.of_below (Keep.below B.i.x.below kp B.i.x.below.size (fun j hj => far j (by omega)))
  have ow := own_more (L := firstL k) (fs := fs) (t := firstT k) (firstL_len k) o3
  rw [← firstL_succ, firstL_len] at ow
  have kw : Keep (· = w.heap.size + 1 + 1 + 1) w3 (w3.setCell ⟨w.heap.size + 1 + 1 + 1, 0, none⟩ (.slice (some ⟨gg, 0, none⟩) (k + 1) c9)) := (Keep.refl (· = w.heap.size + 1 + 1 + 1) w3).setCell (p := ⟨w.heap.size + 1 + 1 + 1, 0, none⟩) rfl _
  have ktw : KT [31] w3 (w3.setCell ⟨w.heap.size + 1 + 1 + 1, 0, none⟩ (.slice (some ⟨gg, 0, none⟩) (k + 1) c9)) := kw.mono (fun j hj => ⟨_, _, List.mem_singleton_self _, hj ▸ b3⟩)
  have vals : ∀ (u : Value) (F : List PV), ValsAt w1 u F → Typ w1 u 38 → ValsAt (w3.setCell ⟨w.heap.size + 1 + 1 + 1, 0, none⟩ (.slice (some ⟨gg, 0, none⟩) (k + 1) c9)) u F ∧ Typ (w3.setCell ⟨w.heap.size + 1 + 1 + 1, 0, none⟩ (.slice (some ⟨gg, 0, none⟩) (k + 1) c9)) u 38 := fun u F hv hy =>
    ⟨Row.kt (Row.kt hv hy kt (by decide)) (hy.kt kt (by decide)) ktw (by decide), (hy.kt kt (by decide)).kt ktw (by decide)⟩
  refine ⟨b3, ⟨x3.setNew (p := ⟨w.heap.size + 1 + 1 + 1, 0, none⟩) (by show w.heap.size ≤ w.heap.size + 1 + 1 + 1; omega) _, (B.i.b0.keep kp (far _ (by omega))).keep kw (by omega), (B.i.b1.keep kp (far _ (by omega))).keep kw (by omega), (B.i.b2.keep kp (far _ (by omega))).keep kw (by omega), b3.set 0 _, ow.kt1 b3 kw (by decide), fun i hi => ?_, fun i hi => ?_⟩⟩
  · by_cases e : i = k
    · subst e
      show ValsAt _ (if i = i then vF else fs i) _
      rw [if_pos rfl]
      exact (vals _ _ B.v B.y).1
    · show ValsAt _ (if i = k then vF else fs i) _
      rw [if_neg e]
      exact (vals _ _ (B.i.fv i (by omega)) (B.i.fy i (by omega))).1
  · by_cases e : i = k
    · subst e
      show Typ _ (if i = i then vF else fs i) _
      rw [if_pos rfl]
      exact (vals _ _ B.v B.y).2
    · show Typ _ (if i = k then vF else fs i) _
      rw [if_neg e]
      exact (vals _ _ (B.i.fv i (by omega)) (B.i.fy i (by omega))).2
set_option maxRecDepth 100000 in
set_option maxHeartbeats 1000000 in
theorem first_ (w : World) : Calls Tryz.prog 5 #[] w fun e w' => ∃ x, e = .returned (.agg (cellsW firstW x)) ∧ Built w' w.heap.size firstW x ∧ Ext w w' := by
  have HN := Lib.hid lnum
  have HO := Lib.hid lobj
  unfold val num at HN
  unfold val objV at HO
  go_enter Tryz.func5, Tryz.ntmps5
  go_wp2_with fail
  go_loopw [4] (fun iv wr => ∃ k : Nat, k ≤ 23 ∧ iv = .int .i64 k ∧ ∃ vL fs, FI w wr k vL fs) (fun iv _ => 23 - (intOf iv).toNat)
  case atStart =>
    refine ⟨0, by omega, rfl, .slice none 0 0, fun _ => .slice none 0 0, is_ext _ _, (((Blk.new w _ _).alloc _).alloc _).alloc _, ((Blk.at_ _ _ (by simp)).alloc _).alloc _, (Blk.at_ _ _ (by simp)).alloc _, Blk.at_ _ _ (by simp), ⟨by rw [flat_len], .inl ⟨rfl, rfl⟩⟩, fun i hi => by omega, fun i hi => by omega⟩
  case round =>
    obtain ⟨k, hk, rfl, vL, fs, I⟩ := hrel
    have II := Lib.hid I
    by_cases hlt : k < 23
    · have iI : (k : Int) < 23 := by omega
      go_upto_block 2 with (fail)
      go_cut [4, 5] from 8 to 58 (fun i v wx => i = .int .i64 (k : Int) ∧ v = .pointer (some ⟨wr.heap.size, 0, none⟩) ∧ ∃ vF, FB w wr wx k vL fs (firstT k) vF)
      case first =>
        by_cases h3 : k < 3
        · have i3 : (k : Int) < 3 := by omega
          have eT : firstT k = ⟨3 + k, 1, k + 1, false, [], ByteArray.empty⟩ := by unfold firstT; rw [if_pos h3]
          go_wp2_with fail
          refine q_name2 (fun w1 hW => ?_)
          have B : ∃ vF, FB w wr w1 k vL fs (firstT k) vF := by
            rw [hW, eT]
            exact ⟨.slice none 0 0, I.ext (is_ext _ _), by have := I.b3.lt; omega, Blk.new _ _ _, row_nil _ _ _, fun k hk => by simp [Value.ownBlock] at hk, rfl, fun hh => by obtain ⟨_, cs, hb⟩ := I.L.block hh; have := hb.lt; omega⟩
          clear hW eT
          go_meet
          exact ⟨rfl, rfl, B⟩
        · by_cases h19 : k < 19
          · skip
            have i3 : (3 : Int) ≤ (k : Int) := by omega
            have i19 : (k : Int) < 19 := by omega
            obtain ⟨j, rfl⟩ : ∃ j, k = j + 3 := ⟨k - 3, by omega⟩
            have j16 : (j : Int) < 16 := by omega
            have eT : firstT (j + 3) = ⟨10, 1, ((j + 3 : Nat) : Int) + 1, false, [objV 0, objV 0, objV 0, num (sizes16.getD j 0), num (fmts16.getD j 0)], ByteArray.empty⟩ := by unfold firstT; rw [if_neg h3, if_pos h19]; rfl
            have s1 : wr.cell? ⟨w.heap.size + 1, j, none⟩ = some (.int .i64 (sizes16.getD j 0)) := (I.b1.cell j).trans (cells16_at _ _ (by show j < 16; omega))
            have s2 : wr.cell? ⟨w.heap.size + 1 + 1, j, none⟩ = some (.int .i64 (fmts16.getD j 0)) := (I.b2.cell j).trans (cells16_at _ _ (by show j < 16; omega))
            have lt1 := I.b1.lt
            have lt2 := I.b2.lt
            have lt3 := I.b3.lt
            have j0 : (0 : Int) ≤ (j : Int) := by omega
            have jw : IntKind.i64.wrap ((j : Int) + 3 - 3) = (j : Int) := by simp (disch := omega) only [IntWalk.i64_in, Int.add_sub_cancel]
            have jw2 : IntKind.i64.wrap (j : Int) = (j : Int) := by simp (disch := omega) only [IntWalk.i64_in]
            go_upto_region 12 with (fail)
            refine wp_name (fun wb hW => ?_)
            have xb : Ext wr wb := by rw [hW]; exact is_ext _ _
            have BX := Lib.hid (show Blk wb wr.heap.size 49 #[.int .i64 10, .int .i64 1, .int .i64 (((j + 3 : Nat) : Int) + 1), .bool false, .slice none 0 0, .string ByteArray.empty] from by rw [hW]; exact Blk.new _ _ _)
            have XB := Lib.hid xb
            replace s1 := ((I.b1.ext xb).cell j).trans (cells16_at _ _ (by show j < 16; omega))
            replace s2 := ((I.b2.ext xb).cell j).trans (cells16_at _ _ (by show j < 16; omega))
            replace lt1 := (I.b1.ext xb).lt
            replace lt2 := (I.b2.ext xb).lt
            replace lt3 := (I.b3.ext xb).lt
            have ltg := BX.out.lt
            have le3 := I.b3.lt
            clear hW xb I
            generalize hz1 : sizes16.getD j 0 = z1 at *
            generalize hz2 : fmts16.getD j 0 = z2 at *
            generalize hg : wr.heap.size = g at *
            obtain ⟨big1, hb1⟩ : ∃ x, x = Value.agg #[Value.int IntKind.i64 0, Value.int IntKind.i64 0, Value.int IntKind.i64 0, Value.int IntKind.i64 0, Value.int IntKind.i64 0, Value.int IntKind.i64 0, Value.int IntKind.i64 0, Value.int IntKind.i64 5, Value.int IntKind.i64 0, Value.int IntKind.i64 22, Value.int IntKind.i64 4, Value.int IntKind.i64 2, Value.int IntKind.i64 1, Value.int IntKind.i64 0, Value.int IntKind.i64 2, Value.int IntKind.i64 2] := ⟨_, rfl⟩
            rw [← hb1]
            obtain ⟨big2, hb2⟩ : ∃ x, x = Value.agg #[Value.int IntKind.i64 1, Value.int IntKind.i64 1, Value.int IntKind.i64 1, Value.int IntKind.i64 1, Value.int IntKind.i64 1, Value.int IntKind.i64 3, Value.int IntKind.i64 3, Value.int IntKind.i64 1, Value.int IntKind.i64 1, Value.int IntKind.i64 1, Value.int IntKind.i64 1, Value.int IntKind.i64 1, Value.int IntKind.i64 1, Value.int IntKind.i64 2, Value.int IntKind.i64 1, Value.int IntKind.i64 1] := ⟨_, rfl⟩
            rw [← hb2]
            have HB1 := Lib.hid hb1
            have HB2 := Lib.hid hb2
            clear hb1 hb2
            have ej : ((j + 3 : Nat) : Int) = (j : Int) + 3 := by omega
            rw [ej]
            clear ej h3 h19 i3 i19 hlt iI hk
            generalize decide ((j : Int) + 3 < 23) = d1
            generalize decide ((j : Int) + 3 < 3) = d2
            generalize decide ((j : Int) + 3 < 19) = d3
            generalize (Value.agg #[Value.int IntKind.i64 10, Value.int IntKind.i64 1, Value.int IntKind.i64 ((j : Int) + 3 + 1), Value.bool false, Value.slice none 0 0, Value.string ⟨#[]⟩]) = big3
            have hn1 : g ≠ w.heap.size + 1 := by omega
            have hn2 : g ≠ w.heap.size + 1 + 1 := by omega
            have hn1' : w.heap.size + 1 ≠ g := by omega
            have hn2' : w.heap.size + 1 + 1 ≠ g := by omega
            go_region_held3 (fun w' => w'.cell? ⟨w.heap.size + 1, j, none⟩ = some (.int .i64 z1) ∧ w'.cell? ⟨w.heap.size + 1 + 1, j, none⟩ = some (.int .i64 z2)) (first | go_keep | with_reducible exact ⟨((is_ext wb _).below.cell (p := ⟨w.heap.size + 1, j, none⟩) lt1).trans s1, ((is_ext wb _).below.cell (p := ⟨w.heap.size + 1 + 1, j, none⟩) lt2).trans s2⟩) ((first | (go_at_call 8; refine (HO.out _ _).mono ?_; rintro e w2 ⟨rfl, x2⟩; have i2 : IsExt wb w2 := ⟨(is_ext wb _).trans x2⟩; clear x2; obtain ⟨q1, q2, q3⟩ := (BX.out.ext i2.out).rules; have u1 := ((i2.out).below.cell (p := ⟨w.heap.size + 1, j, none⟩) lt1).trans s1; have u2 := ((i2.out).below.cell (p := ⟨w.heap.size + 1 + 1, j, none⟩) lt2).trans s2; have v1 := Nat.lt_of_lt_of_le lt1 i2.out.below.size; have v2 := Nat.lt_of_lt_of_le lt2 i2.out.below.size) | (go_at_call 19; refine (HN.out _ _).mono ?_; rintro e w2 ⟨rfl, x2⟩; have i2 : IsExt wb w2 := ⟨(is_ext wb _).trans x2⟩; clear x2; obtain ⟨q1, q2, q3⟩ := (BX.out.ext i2.out).rules; have u1 := ((i2.out).below.cell (p := ⟨w.heap.size + 1, j, none⟩) lt1).trans s1; have u2 := ((i2.out).below.cell (p := ⟨w.heap.size + 1 + 1, j, none⟩) lt2).trans s2; have v1 := Nat.lt_of_lt_of_le lt1 i2.out.below.size; have v2 := Nat.lt_of_lt_of_le lt2 i2.out.below.size)))
            refine q_name (fun w1 hW => ?_)
            have B : ∃ vF, FB w wr w1 (j + 3) vL fs (firstT (j + 3)) vF := by
              have x1 : Ext wr w1 := by rw [hW]; exact ((XB.out.trans i2.out).setNew (p := ⟨g, 4, none⟩) (by rw [hg]; exact Nat.le_refl _) _).alloc _
              have b1 := (((BX.out.ext i2.out).set 4 (.slice (some ⟨w2.heap.size, 0, none⟩) 5 5)).alloc (.cells #[.bool true, .int .i64 0, .bool true, .int .i64 0, .bool true, .int .i64 0, .bool false, .int .i64 z1, .bool false, .int .i64 z2] 38))
              rw [← hW] at b1
              have b2 : Blk w1 w2.heap.size 38 (flat 5 2 (cF [objV 0, objV 0, objV 0, num z1, num z2])).toArray := by
                rw [hW]; exact Blk.at_ _ _ (by simp [World.setCell])
              rw [eT]
              exact ⟨.slice (some ⟨w2.heap.size, 0, none⟩) 5 5, II.out.ext x1, by omega, hg ▸ b1, row_flat b2 (by omega), typ_blk b2, rfl, fun hh => by obtain ⟨_, cs, hb⟩ := II.out.L.block hh; have := hb.lt; omega⟩
            clear hW eT q1 q2 q3 u1 u2 v1 v2 s1 s2 lt1 lt2 lt3 hn1 hn2 hn1' hn2'
            rw [HB1.out, HB2.out]
            go_wp2_with fail
            go_meet
            exact ⟨by first | rfl | simp, rfl, B⟩
          · by_cases h22 : k < 22
            · skip
              obtain ⟨q, rfl⟩ : ∃ q, k = q + 19 := ⟨k - 19, by omega⟩
              have k3 : (3 : Int) ≤ ((q + 19 : Nat) : Int) := by omega
              have k19 : (19 : Int) ≤ ((q + 19 : Nat) : Int) := by omega
              have k22 : ((q + 19 : Nat) : Int) < 22 := by omega
              have q3' : (q : Int) < 3 := by omega
              have q0' : (0 : Int) ≤ (q : Int) := by omega
              have eT : firstT (q + 19) = ⟨9, 3, ((q + 19 : Nat) : Int) + 1, false, [], names3.getD q ByteArray.empty⟩ := by
                unfold firstT; rw [if_neg h3, if_neg h19, if_pos h22]; rfl
              have hidx : ∀ W, (Instr.index 66 (.agg #[.string ⟨#[108, 111, 115, 116]⟩, .string ⟨#[98, 111, 111, 108]⟩, .string ⟨#[98, 97, 99, 107]⟩]) (.int .i64 (q : Int))).run Tryz.prog W = .ok (.string (names3.getD q ByteArray.empty)) W := by
                have hq3 : q = 0 ∨ q = 1 ∨ q = 2 := by omega
                rcases hq3 with rfl | rfl | rfl <;> intro W <;> kernel_rfl
              have jw : IntKind.i64.wrap ((q : Int) + 19 - 19) = (q : Int) := by simp (disch := omega) only [IntWalk.i64_in, Int.add_sub_cancel]
              have jw2 : IntKind.i64.wrap (q : Int) = (q : Int) := by simp (disch := omega) only [IntWalk.i64_in]
              go_upto_region 14 with (fail)
              refine wp_name (fun wb hW => ?_)
              have xb : Ext wr wb := by rw [hW]; exact is_ext _ _
              have BX := Lib.hid (show Blk wb wr.heap.size 49 #[.int .i64 10, .int .i64 1, .int .i64 (((q + 19 : Nat) : Int) + 1), .bool false, .slice none 0 0, .string ByteArray.empty] from by rw [hW]; exact Blk.new _ _ _)
              have XB := Lib.hid xb
              have le3 := I.b3.lt
              obtain ⟨q1, q2, q3⟩ := BX.out.rules
              clear hW xb I
              generalize hnm : names3.getD q ByteArray.empty = nm at *
              generalize hg : wr.heap.size = g at *
              have ej : ((q + 19 : Nat) : Int) = (q : Int) + 19 := by omega
              go_region_held3 (fun _ => True) (trivial) (fail)
              all_goals
                refine q_name (fun w1 hW => ?_)
                have B : ∃ vF, FB w wr w1 (q + 19) vL fs (firstT (q + 19)) vF := by
                  have x1 : Ext wr w1 := by rw [hW]; exact (((XB.out.setNew (p := ⟨g, 0, none⟩) (by rw [hg]; exact Nat.le_refl _) _).setNew (p := ⟨g, 1, none⟩) (by rw [hg]; exact Nat.le_refl _) _).setNew (p := ⟨g, 5, none⟩) (by rw [hg]; exact Nat.le_refl _) _).drew
                  have b1 := (((BX.out.set 0 (.int .i64 9)).set 1 (.int .i64 3)).set 5 (.string nm)).drew
                  rw [← hW] at b1
                  rw [eT]
                  exact ⟨.slice none 0 0, II.out.ext x1, by omega, hg ▸ b1, row_nil _ _ _, fun k hk => by simp [Value.ownBlock] at hk, rfl, fun hh => by obtain ⟨_, cs, hb⟩ := II.out.L.block hh; have := hb.lt; omega⟩
                clear hW
                go_wp2_with fail
                go_meet
                exact ⟨by first | rfl | simp, rfl, B⟩
            · skip
              obtain rfl : k = 22 := by omega
              have eT : firstT 22 = ⟨15, 1, 23, false, [num 0], ByteArray.empty⟩ := rfl
              go_upto_region 8 with (fail)
              refine wp_name (fun wb hW => ?_)
              have xb : Ext wr wb := by rw [hW]; exact is_ext _ _
              have BX := Lib.hid (show Blk wb wr.heap.size 49 #[.int .i64 10, .int .i64 1, .int .i64 23, .bool false, .slice none 0 0, .string ByteArray.empty] from by rw [hW]; exact Blk.new _ _ _)
              have XB := Lib.hid xb
              have le3 := I.b3.lt
              clear hW xb I
              generalize hg : wr.heap.size = g at *
              go_wp2_with (go_at_call 19; refine (HN.out _ _).mono ?_; rintro e w2 ⟨rfl, x2⟩; have i2 : IsExt wb w2 := ⟨(is_ext wb _).trans x2⟩; clear x2; obtain ⟨q1, q2, q3⟩ := (BX.out.ext i2.out).rules)
              refine q_name2 (fun w1 hW => ?_)
              have B : ∃ vF, FB w wr w1 22 vL fs (firstT 22) vF := by
                have x1 : Ext wr w1 := by rw [hW]; exact (((XB.out.trans i2.out).setNew (p := ⟨g, 0, none⟩) (by rw [hg]; exact Nat.le_refl _) _).setNew (p := ⟨g, 4, none⟩) (by rw [hg]; exact Nat.le_refl _) _).alloc _
                have b1 := (((BX.out.ext i2.out).set 0 (.int .i64 15)).set 4 (.slice (some ⟨w2.heap.size, 0, none⟩) 1 1)).alloc (.cells #[.bool false, .int .i64 0] 38)
                rw [← hW] at b1
                have b2 : Blk w1 w2.heap.size 38 (flat 1 2 (cF [num 0])).toArray := by
                  rw [hW]; exact Blk.at_ _ _ (by simp [World.setCell])
                rw [eT]
                exact ⟨.slice (some ⟨w2.heap.size, 0, none⟩) 1 1, II.out.ext x1, by omega, hg ▸ b1, row_flat b2 (by omega), typ_blk b2, rfl, fun hh => by obtain ⟨_, cs, hb⟩ := II.out.L.block hh; have := hb.lt; omega⟩
              clear hW eT q1 q2 q3
              go_meet
              exact ⟨rfl, rfl, B⟩
      case rest =>
        obtain ⟨rfl, rfl, B⟩ := hcut
        generalize hw1 : wc = w1 at *
        obtain ⟨iT, iT1, iT2, iT3, iT4⟩ := info_parts infoT
        obtain ⟨vF, B⟩ := B
        have BB := Lib.hid B
        obtain ⟨q1, q2, q3⟩ := B.b.rules
        obtain ⟨p1, p2, p3⟩ := B.i.b3.rules
        unfold boxT at q1
        unfold zW at p1
        obtain ⟨A, c, hA⟩ := B.i.L.form
        subst hA
        have o2 : w1.ownsRow (w.heap.size + 1 + 1 + 1 + 1) 49 6 (.slice A k c) k (flat k 6 (cL (firstL k) fs)) := B.i.L
        have O2 := Lib.hid (o2.alloc (.cells #[.int .i64 (firstT k).cls, .int .i64 (firstT k).fmt, .int .i64 (firstT k).hash, .bool (firstT k).fin, vF, .string (firstT k).B] 49))
        have s6 := six_one (firstT k) vF B.one
        have s2 := B.i.x.below.size
        have b2 := B.i.b3.lt
        have g2 := B.g
        clear o2 B I II
        go_wp2_with (at_builtin; refine wpList_append_lies _ rfl _ _ _ rfl (w.heap.size + 1 + 1 + 1 + 1) 49 iT (.agg #[.int .i64 0, .int .i64 0, .int .i64 0, .bool false, .slice none 0 0, .string ByteArray.empty]) 6 72 Tryz.underlying23 iT1 iT2 iT3 iT4 rfl (by decide) _ _ _ (by rfl) O2.out ⟨w1.heap.size, 0, none⟩ 1 1 [.int .i64 (firstT k).cls, .int .i64 (firstT k).fmt, .int .i64 (firstT k).hash, .bool (firstT k).fin, vF, .string (firstT k).B] (by rfl) (by rfl) (World.news_of_block (heap_alloc_new w1 _)) s6 (by omega) (by unfold maxLen; omega) (by omega) (by simp; omega) (w1.heap.size + 1) (by simp) ?_; intro gg c9 w3 o3 g3 hat hlt3; have N := BB.out.push g3 hat o3; have B3 := N.1; have N3 := Lib.hid N.2; obtain ⟨r1, r2, r3⟩ := B3.rules; clear o3 g3 hat N B3 O2 BB)
        go_roundw
        case rel => exact ⟨k + 1, by omega, by go_num, _, _, N3.out⟩
        case measure => simp [intOf]; omega
    · obtain rfl : k = 23 := by omega
      obtain ⟨p1, p2, p3⟩ := I.b3.rules
      obtain ⟨r1, r2, r3⟩ := I.b0.rules
      unfold zW at p1 r1
      obtain ⟨A, c, rfl⟩ := I.L.form
      clear I
      go_wp2_with fail
      refine q_name (fun W hW => ?_)
      have bW : Blk W w.heap.size 31 (cellsW firstW ⟨.slice A 23 c, fs, .slice none 0 0, .slice none 0 0, .slice none 0 0, .slice none 0 0, .slice none 0 0⟩) := by
        rw [hW]
        have key := (((((((((((((II.out.b0.far (p := ⟨w.heap.size + 1 + 1 + 1, 2, none⟩) (by simp; omega) (.int .i64 23)).set 0 (.slice A 23 c)).set 1 (.slice none 0 0)).set 2 (.int .i64 23)).set 3 (.int .i64 0)).set 4 (.int .i64 0)).set 5 (.slice none 0 0)).set 6 (.slice none 0 0)).set 7 (.slice none 0 0)).set 8 (.string ByteArray.empty)).set 9 (.string ByteArray.empty)).set 10 (.int .i64 0)).set 11 (.int .i64 0)).set 12 (.slice none 0 0)
        simp only [zW, List.setIfInBounds_toArray, List.set_cons_zero, List.set_cons_succ] at key
        exact key
      have kW : Keep (fun j => j = w.heap.size ∨ j = w.heap.size + 1 + 1 + 1) wr W := by
        rw [hW]
        repeat (refine Keep.setCell ?_ (by simp) _)
        exact Keep.refl _ _
      have ktW : KT [31] wr W := kW.mono (fun j hj => by
        rcases hj with rfl | rfl
        · exact ⟨_, _, List.mem_singleton_self _, II.out.b0⟩
        · exact ⟨_, _, List.mem_singleton_self _, II.out.b3⟩)
      have xW : Ext w W := Ext.of_below (Keep.below II.out.x.below kW II.out.x.below.size (fun i hi h => by omega))
      have BU : Built W w.heap.size firstW ⟨.slice A 23 c, fs, .slice none 0 0, .slice none 0 0, .slice none 0 0, .slice none 0 0, .slice none 0 0⟩ := by
        refine ⟨?_, fun i hi => ?_, fun i hi => ?_, ⟨rfl, rfl, rfl, rfl, rfl⟩, ⟨rfl, rfl, rfl, rfl, rfl⟩⟩
        · show Own W _ _ _ (firstL 23).length 6 _
          rw [firstL_len]
          exact (II.out.L.far kW (fun j hj h => by have := (II.out.L.block hj).1; omega)).base (by omega)
        · have hi : i < (firstL 23).length := hi
          rw [firstL_len] at hi
          show ValsAt W (fs i) (tAt (firstL 23) i).F
          rw [firstL_at _ _ hi]
          exact Row.kt (II.out.fv i hi) (II.out.fy i hi) ktW (by decide)
        · have hi : i < (firstL 23).length := hi
          rw [firstL_len] at hi
          exact (II.out.fy i hi).kt ktW (by decide)
      have BUH := Lib.hid BU
      have XWH := Lib.hid xW
      obtain ⟨z1, z2, z3⟩ := bW.rules
      unfold cellsW firstW regs0 at z1
      clear hW kW ktW xW BU bW
      refine bodyPost_ret (v := .agg (cellsW firstW ⟨.slice A 23 c, fs, .slice none 0 0, .slice none 0 0, .slice none 0 0, .slice none 0 0, .slice none 0 0⟩)) (by simp [results, Tryz.results5, go_sem, z1, z3, cellsW, firstW, regs0]) rfl ⟨_, rfl, BUH.out, XWH.out⟩
end Go.Proofs.YtjpalcejmloocaaGreat.World
