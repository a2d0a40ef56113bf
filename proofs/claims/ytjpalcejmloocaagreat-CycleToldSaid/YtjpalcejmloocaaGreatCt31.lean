/-
  Reach6, as one text (a claim has at most 60 files).
-/
import Derived.Test.YtjpalcejmloocaaGreatCt29
import Derived.Test.YtjpalcejmloocaaGreatCt30
import Derived.ScopeJumps
import Derived.WalkSmall
import Derived.Deep.CutBlock
import Derived.Deep.CutRange
import Derived.BigRegion
namespace Go.Proofs.YtjpalcejmloocaaGreat.World
open Go.RowKit Go.Proofs.YtjpalcejmloocaaGreat.Plain
set_option linter.unusedVariables false
attribute [local go_sem ↓] Go.wp_at_zero Go.wp_at_succ
theorem least {p : Nat → Prop} (h : ∃ n, p n) : ∃ n, p n ∧ ∀ m, p m → n ≤ m := by
  obtain ⟨n, hn⟩ := h
  induction n using Nat.strongRecOn with
  | ind n ih =>
    by_cases hm : ∃ m, m < n ∧ p m
    · obtain ⟨m, hlt, hpm⟩ := hm
      exact ih m hlt hpm
    · exact ⟨n, hn, fun m hm' => by
        rcases Nat.lt_or_ge m n with q | q
        · exact absurd ⟨m, q, hm'⟩ hm
        · exact q⟩
open Classical in
noncomputable def minN (p : Nat → Prop) : Nat := if h : ∃ n, p n then Classical.choose (least h) else 0
theorem minN_spec {p : Nat → Prop} (h : ∃ n, p n) : p (minN p) ∧ ∀ m, p m → minN p ≤ m := by
  unfold minN
  rw [dif_pos h]
  exact Classical.choose_spec (least h)
theorem wp_scope_enter {P : Program} {a : Act} {w : World} {Q : Exit → Act → World → Prop} {c b : Code} (l : Nat) (J : Act → World → Prop) (μ : Act → World → Nat) (hf : findLabel c l = some (.seq .skip b))
    (pass : ∀ a w, J a w → b.wp P (Exit.jump l (fun a' w' => J a' w' ∧ μ a' w' < μ a w) Q) a w)
    (first : (∀ a w, J a w → b.wp P (Exit.jump l J Q) a w) → c.wp P (Exit.jump l J Q) a w) : (Code.scope c).wp P Q a w :=
  wp_scope_jumps l J μ hf (first (fun a w h => wp_mono (pass a w h) (fun e a' w' h' => by
    cases e <;> first | exact h' | exact ⟨h'.1, h'.2.1⟩))) (fun a w h => wp_seq (wp_skip (pass a w h)))
/-- a backward goto: what holds at the label, with a number that falls -/
theorem wp_scope_fall {P : Program} {a : Act} {w : World} {Q : Exit → Act → World → Prop} {c b : Code} (l : Nat) (J : Nat → Act → World → Prop) (hf : findLabel c l = some (.seq .skip b))
    (pass : ∀ n a w, J n a w → b.wp P (Exit.jump l (fun a' w' => ∃ n', n' < n ∧ J n' a' w') Q) a w)
    (first : (∀ n a w, J n a w → b.wp P (Exit.jump l (fun a w => ∃ n, J n a w) Q) a w) → c.wp P (Exit.jump l (fun a w => ∃ n, J n a w) Q) a w) : (Code.scope c).wp P Q a w := by
  refine wp_scope_enter l (fun a w => ∃ n, J n a w) (fun a w => minN (fun n => J n a w)) hf (fun a w h => ?_) (fun K => first (fun n a w h => K a w ⟨n, h⟩))
  have hm := minN_spec h
  refine wp_mono (pass _ a w hm.1) (fun e a' w' h' => ?_)
  cases e <;> first | exact h' | (obtain ⟨hl, n', hlt, hj⟩ := h'; exact ⟨hl, ⟨n', hj⟩, Nat.lt_of_le_of_lt ((minN_spec ⟨n', hj⟩).2 n' hj) hlt⟩)
theorem arr_set (seen : List Bool) (t : Nat) : ((seen.map Value.bool).toArray).setIfInBounds t (.bool true) = ((seen.set t true).map Value.bool).toArray := by
  rw [List.map_set]; simp
theorem seen_cell {wr : World} {gS : Nat} {seen : List Bool} (h : Blk wr gS 4 (seen.map Value.bool).toArray) (t : Nat) (ht : t < seen.length) : wr.cell? ⟨gS, t, none⟩ = some (.bool (sB seen t)) := by
  rw [h.cell]
  unfold sB
  simp [List.getD_eq_getElem?_getD, ht]
theorem own_flat1 {w : World} {b g n sz : Nat} {e : TypeId} {c : Nat → Nat → Value} (h : Blk w g e (flat n sz c).toArray) (hb : b ≤ g) (hn : n ≤ 1000000) : Own w b e (.slice (some ⟨g, 0, none⟩) n n) n sz c := by
  refine ⟨flat_len _ _ _, .inr ⟨g, n, _, rfl, hb, h, Nat.le_refl _, by unfold maxLen; omega, by simp [flat_len], ?_⟩⟩
  simp [List.take_of_length_le, flat_len]
theorem OwnI.at0 {w : World} {base : Nat} {v : Value} {zs : List Int} (h : OwnI w base v zs) (i : Nat) (hi : i < zs.length) : ∃ g c, v = .slice (some ⟨g, 0, none⟩) zs.length c ∧ zs.length ≤ c ∧ c ≤ 9223372036854775807 ∧ base ≤ g ∧ g < w.heap.size ∧ w.cell? ⟨g, i, none⟩ = some (.int .i64 (zs.getD i 0)) ∧ ∀ j, w.frozen? ⟨g, j, none⟩ = false := by
  have h : w.ownsRow base 3 1 v zs.length (zs.map (Value.int .i64)) := h
  rcases h.2 with ⟨rfl, h0⟩ | ⟨g, cap, cur, rfl, hb, hg, hn, hcap, hsz, ht⟩
  · omega
  · have hB : Blk w g 3 cur := hg
    unfold maxLen at hcap
    refine ⟨g, cap, rfl, hn, by omega, hb, hB.lt, ?_, hB.frozen⟩
    rw [hB.cell, ← Array.getElem?_toList]
    have e1 : (zs.map (Value.int .i64))[i]? = some (.int .i64 (zs.getD i 0)) := by
      rw [List.getElem?_map, List.getElem?_eq_getElem hi, List.getD_eq_getElem?_getD, List.getElem?_eq_getElem hi]; rfl
    rw [← ht, List.getElem?_take_of_lt (by omega)] at e1
    exact e1
theorem OwnI.top {w : World} {base : Nat} {v : Value} {st : List Int} {j : Int} (h : OwnI w base v (st ++ [j])) : ∃ g c, v = .slice (some ⟨g, 0, none⟩) (st.length + 1) c ∧ st.length + 1 ≤ c ∧ c ≤ 9223372036854775807 ∧ base ≤ g ∧ g < w.heap.size ∧ w.cell? ⟨g, st.length, none⟩ = some (.int .i64 j) ∧ (∀ i, w.frozen? ⟨g, i, none⟩ = false) ∧ OwnI w base (.slice (some ⟨g, 0, none⟩) st.length c) st := by
  have hl : (st ++ [j]).length = st.length + 1 := by simp
  obtain ⟨g, c, e, h1, h2, h3, h4, h5, h6⟩ := h.at0 st.length (by omega)
  rw [hl] at e h1
  refine ⟨g, c, e, h1, h2, h3, h4, ?_, h6, ?_⟩
  · rw [h5]; simp [List.getD_eq_getElem?_getD]
  · have h : w.ownsRow base 3 1 v (st ++ [j]).length ((st ++ [j]).map (Value.int .i64)) := h
    rw [hl, List.map_append, e] at h
    exact ownsRow_pop (by simp) h
/-- the slots at the label -/
def WSlt (cs : Array Value) (weak : Bool) (g2 gS N : Nat) (vW : Value) (act : Act) : Prop := ∃ u : Nat → Value, act = { tmps := #[.agg cs, .bool weak, .pointer (some ⟨g2, 0, none⟩), u 3, .slice none 0 0, .slice (some ⟨gS, 0, none⟩) N N, vW, u 7, u 8, u 9, u 10, u 11, u 12, u 13, u 14, u 15, u 16, u 17, u 18, u 19, u 20, u 21, u 22, u 23, u 24, u 25, u 26, u 27, u 28, u 29, u 30, u 31, u 32, u 33, u 34, u 35, u 36, u 37, u 38, u 39, u 40, u 41, u 42, u 43, u 44, u 45, u 46, u 47, u 48, u 49, u 50, u 51, u 52, u 53, u 54, u 55, u 56, u 57, u 58, u 59, u 60, u 61, u 62, u 63, u 64, u 65, u 66, u 67, u 68, u 69, u 70, u 71, u 72, u 73, u 74, u 75, u 76, u 77, u 78, u 79, u 80, u 81, u 82, u 83, u 84, u 85, u 86, u 87, u 88, u 89, u 90, u 91, u 92, u 93, u 94, u 95, u 96, u 97, u 98, u 99], defers := [] }
theorem WSlt.intro (cs : Array Value) (weak : Bool) (g2 gS N : Nat) (vW : Value) (act : Act) (h : act = { tmps := #[.agg cs, .bool weak, .pointer (some ⟨g2, 0, none⟩), act.tmps.getD 3 undef, .slice none 0 0, .slice (some ⟨gS, 0, none⟩) N N, vW, act.tmps.getD 7 undef, act.tmps.getD 8 undef, act.tmps.getD 9 undef, act.tmps.getD 10 undef, act.tmps.getD 11 undef, act.tmps.getD 12 undef, act.tmps.getD 13 undef, act.tmps.getD 14 undef, act.tmps.getD 15 undef, act.tmps.getD 16 undef, act.tmps.getD 17 undef, act.tmps.getD 18 undef, act.tmps.getD 19 undef, act.tmps.getD 20 undef, act.tmps.getD 21 undef, act.tmps.getD 22 undef, act.tmps.getD 23 undef, act.tmps.getD 24 undef, act.tmps.getD 25 undef, act.tmps.getD 26 undef, act.tmps.getD 27 undef, act.tmps.getD 28 undef, act.tmps.getD 29 undef, act.tmps.getD 30 undef, act.tmps.getD 31 undef, act.tmps.getD 32 undef, act.tmps.getD 33 undef, act.tmps.getD 34 undef, act.tmps.getD 35 undef, act.tmps.getD 36 undef, act.tmps.getD 37 undef, act.tmps.getD 38 undef, act.tmps.getD 39 undef, act.tmps.getD 40 undef, act.tmps.getD 41 undef, act.tmps.getD 42 undef, act.tmps.getD 43 undef, act.tmps.getD 44 undef, act.tmps.getD 45 undef, act.tmps.getD 46 undef, act.tmps.getD 47 undef, act.tmps.getD 48 undef, act.tmps.getD 49 undef, act.tmps.getD 50 undef, act.tmps.getD 51 undef, act.tmps.getD 52 undef, act.tmps.getD 53 undef, act.tmps.getD 54 undef, act.tmps.getD 55 undef, act.tmps.getD 56 undef, act.tmps.getD 57 undef, act.tmps.getD 58 undef, act.tmps.getD 59 undef, act.tmps.getD 60 undef, act.tmps.getD 61 undef, act.tmps.getD 62 undef, act.tmps.getD 63 undef, act.tmps.getD 64 undef, act.tmps.getD 65 undef, act.tmps.getD 66 undef, act.tmps.getD 67 undef, act.tmps.getD 68 undef, act.tmps.getD 69 undef, act.tmps.getD 70 undef, act.tmps.getD 71 undef, act.tmps.getD 72 undef, act.tmps.getD 73 undef, act.tmps.getD 74 undef, act.tmps.getD 75 undef, act.tmps.getD 76 undef, act.tmps.getD 77 undef, act.tmps.getD 78 undef, act.tmps.getD 79 undef, act.tmps.getD 80 undef, act.tmps.getD 81 undef, act.tmps.getD 82 undef, act.tmps.getD 83 undef, act.tmps.getD 84 undef, act.tmps.getD 85 undef, act.tmps.getD 86 undef, act.tmps.getD 87 undef, act.tmps.getD 88 undef, act.tmps.getD 89 undef, act.tmps.getD 90 undef, act.tmps.getD 91 undef, act.tmps.getD 92 undef, act.tmps.getD 93 undef, act.tmps.getD 94 undef, act.tmps.getD 95 undef, act.tmps.getD 96 undef, act.tmps.getD 97 undef, act.tmps.getD 98 undef, act.tmps.getD 99 undef], defers := [] }) : WSlt cs weak g2 gS N vW act := ⟨fun j => act.tmps.getD j undef, h⟩
/-- what holds at the label -/
structure WJ (w0 : World) (W : PW) (x : WV) (weak : Bool) (g2 gS : Nat) (seen : List Bool) (stack : List Int) (vW : Value) (wr : World) : Prop where
  ws : WS W.L.length (nxW W weak) (rootsOf W.R) seen stack
  ow : OwnI wr w0.heap.size vW stack
  bS : Blk wr gS 4 (seen.map Value.bool).toArray
  b2 : Blk wr g2 31 (cellsW W x)
  x : Ext w0 wr
  hS : w0.heap.size ≤ gS
def WJn (w0 : World) (W : PW) (x : WV) (weak : Bool) (g2 : Nat) (n : Nat) (act : Act) (wr : World) : Prop :=
  ∃ (gS : Nat) (seen : List Bool) (stack : List Int) (vW : Value), WSlt (cellsW W x) weak g2 gS W.L.length vW act ∧ WJ w0 W x weak g2 gS seen stack vW wr ∧ n = 2 * unseen seen + stack.length ∧ n ≤ 20000
/-- within a round: the nexts of what has been popped, one by one -/
structure WL (w0 : World) (W : PW) (x : WV) (weak : Bool) (g2 gS g10 t : Nat) (vN : Value) (nl : List Int) (mx q : Nat) (seen : List Bool) (stack : List Int) (vW : Value) (wr : World) : Prop where
  wm : WM W.L.length (nxW W weak) (rootsOf W.R) seen stack t (nl.take q)
  ow : OwnI wr w0.heap.size vW stack
  bS : Blk wr gS 4 (seen.map Value.bool).toArray
  b2 : Blk wr g2 31 (cellsW W x)
  x : Ext w0 wr
  on : OwnI wr g10 vN nl
  ap : Apart vN vW
  mx : 2 * unseen seen + stack.length ≤ mx
  hg : g10 ≤ wr.heap.size
set_option maxRecDepth 100000 in
set_option maxHeartbeats 4000000 in
theorem walk_ {w : World} {x : WV} {W : PW} (h : WorldAt w x W) (weak : Bool) :
    Calls Tryz.prog 322 #[.agg (cellsW W x), .bool weak] w fun e w' => ∃ v, e = .returned v ∧ (checkB W = false → v = .slice none 0 0) ∧ (checkB W = true → ∃ l g, v = .slice (some ⟨g, 0, none⟩) W.L.length W.L.length ∧ RchL W.L.length (nxW W weak) (rootsOf W.R) l ∧ Blk w' g 4 (l.map Value.bool).toArray ∧ w.heap.size ≤ g) ∧ Ext w w' := by
  have C := Lib.hid (fun W2 (e : Ext w W2) => check (W := W) (h.ext e))
  have D := Lib.hid (fun W2 (e : Ext w W2) (hc : checkB W = true) => roots_ (W := W) (h.ext e) (by have := regs_lens hc; omega))
  have HW := Lib.hid h
  obtain ⟨vL, fs, vD, vRe, vWa, vDu, vSn⟩ := x
  obtain ⟨AL, cL, e1, l1, l2⟩ := h.L.row.form
  have e1 : vL = .slice AL W.L.length cL := e1
  subst e1
  have HL := Lib.hid (fun i (hi : i < W.L.length) => h.L.cells rfl i hi)
  have HV := Lib.hid (fun i (hi : i < W.L.length) => h.L.flds i hi)
  clear h
  go_enter Tryz.func322, Tryz.ntmps322
  go_wp2_with fail
  cases hck : checkB W with
  | false =>
    refine wp_scope_fall 0 (fun _ _ _ => False) rfl (fun _ _ _ h => h.elim) ?_
    intro body
    clear body
    rw [hck] at C
    unfold cellsW at C ⊢
    have XX := Lib.hid ((Ext.refl w).alloc (.cells #[.slice AL W.L.length cL, vD, .int .i64 W.last, .int .i64 W.R.proc, .int .i64 W.R.frame, vRe, vWa, vDu, .string W.R.out, .string W.R.inp, .int .i64 W.R.how, .int .i64 W.R.exit, vSn] 31))
    have HC := Lib.hid hck
    clear HL HV HW D hck
    go_wp2_with fail
    refine (C.out _ XX.out).mono ?_
    rintro e w2 ⟨rfl, x2⟩
    have X2 := Lib.hid (XX.out.trans x2)
    clear x2 C XX
    go_wp2_with fail
    simp only [Exit.jump]
    go_ret
    exact ⟨_, rfl, fun _ => rfl, fun h => absurd h (by rw [HC.out]; decide), X2.out⟩
  | true =>
  have NL := check_len hck
  have NXI := Lib.hid (fun i (hi : i < W.L.length) => nexts_in (weak := weak) hck hi)
  have hck' := Lib.hid hck
  refine wp_scope_fall 0 (WJn w W ⟨.slice AL W.L.length cL, fs, vD, vRe, vWa, vDu, vSn⟩ weak w.heap.size) rfl ?_ ?_
  · rintro n act wr ⟨gS, seen, stack, vW, ⟨u, rfl⟩, J, hn, hnb⟩
    rcases List.eq_nil_or_concat stack with rfl | ⟨st, j, rfl⟩
    · obtain ⟨A0, c0, e0⟩ := J.ow.own.form
      have e0 : vW = .slice A0 0 c0 := e0
      subst e0
      have JH := Lib.hid J
      clear J hn hnb
      go_wp2_with fail
      simp only [Exit.jump]
      go_ret
      exact ⟨_, rfl, fun h => absurd h (by rw [hck'.out]; decide), fun _ => ⟨seen, gS, rfl, JH.out.ws.done, JH.out.bS, JH.out.hS⟩, JH.out.x⟩
    · rw [List.concat_eq_append] at *
      obtain ⟨wm, j0, jN⟩ := J.ws.pop
      obtain ⟨t, rfl⟩ := Int.eq_ofNat_of_zero_le j0
      have ht : t < W.L.length := by omega
      obtain ⟨gW, cW, rfl, w1, w2, w3, w4, w5, w6, ow⟩ := J.ow.top
      obtain ⟨bL, oL, rfl, hbL, d0, d1, d2, d3, d4, d5⟩ := HL.out t ht
      have vf := HV.out t ht
      obtain ⟨AF, cF, ef, f1, f2⟩ := Row.form vf
      have ef : fs t = .slice AF (tAt W.L t).F.length cF := ef
      have d4 : w.cell? ⟨bL, oL + t * 6 + 4, none⟩ = some (fs t) := d4
      rw [ef] at d4 vf
      have xw := J.x
      replace d0 := (xw.below.cell (p := ⟨bL, oL + t * 6, none⟩) hbL).trans d0
      replace d1 := (xw.below.cell (p := ⟨bL, oL + t * 6 + 1, none⟩) hbL).trans d1
      replace d2 := (xw.below.cell (p := ⟨bL, oL + t * 6 + 2, none⟩) hbL).trans d2
      replace d3 := (xw.below.cell (p := ⟨bL, oL + t * 6 + 3, none⟩) hbL).trans d3
      replace d4 := (xw.below.cell (p := ⟨bL, oL + t * 6 + 4, none⟩) hbL).trans d4
      replace d5 := (xw.below.cell (p := ⟨bL, oL + t * 6 + 5, none⟩) hbL).trans d5
      have hbL2 : bL < wr.heap.size := by have := xw.below.size; omega
      obtain ⟨q1, q2, q3⟩ := J.b2.rules
      unfold cellsW at q1
      have qc := q1 0
      simp only [List.getElem?_toArray, List.getElem?_cons_zero] at qc
      have nxe : nxW W weak t = (tAt W.L t).cls :: (if goesOn weak (tAt W.L t) then objsOf (tAt W.L t).F else []) := rfl
      have NXE := Lib.hid nxe
      have NXt := Lib.hid (NXI.out t ht)
      have hF60 : (tAt W.L t).F.length ≤ 60 ∨ (tAt W.L t).fmt = 3 := by
        have q := (check_thing hck'.out ht).2
        unfold shapeB at q
        by_cases e3 : (tAt W.L t).fmt = 3
        · exact .inr e3
        · rw [if_neg e3] at q
          split at q
          · simp only [Bool.and_eq_true, decide_eq_true_eq] at q; exact .inl q.2.1
          · cases q
      have JX := Lib.hid J.x
      have JS := Lib.hid J.bS
      have JB := Lib.hid J.b2
      have JHS := Lib.hid J.hS
      have WMH := Lib.hid wm
      have OWH := Lib.hid ow
      have HN := Lib.hid hn
      have tN : (t : Int) < (W.L.length : Int) := by omega
      have lst : (st ++ [(t : Int)]).length = st.length + 1 := by simp
      rw [lst] at hn
      have hk20 : st.length < 20000 := by omega
      clear J j0 jN wm ow q1 xw nxe hn lst
      generalize hkk : st.length = k at *
      have ka : IntKind.i64.wrap ((k : Int) + 1 - 1) = (k : Int) := by rw [IntWalk.i64_in _ (by omega)]; omega
      have kb : (((k + 1 : Nat) : Int) == 0) = false := beq_eq_false_iff_ne.2 (by omega)
      have kc : ((k : Int) + 1 == 0) = false := beq_eq_false_iff_ne.2 (by omega)
      have kd : (k : Int) < (k : Int) + 1 := by omega
      generalize (tAt W.L t).cls = tc at *
      generalize (tAt W.L t).hash = th at *
      generalize (tAt W.L t).fin = tn at *
      generalize (tAt W.L t).B = tB at *
      go_upto_region 12 with (fail)
      have ke : IntKind.i64.wrap (k : Int) = (k : Int) := IntWalk.i64_in _ (by omega)
      have kf : IntKind.i64.wrap (((k + 1 : Nat) : Int) - 1) = (k : Int) := by rw [IntWalk.i64_in _ (by omega)]; omega
      have kg : (k : Int) < ((k + 1 : Nat) : Int) := by omega
      go_region_held3 (fun w' => w'.cell? ⟨w.heap.size, 0, none⟩ = some (.slice (some ⟨bL, oL, none⟩) W.L.length cL) ∧ w'.cell? ⟨gW, k, none⟩ = some (.int .i64 (t : Int)) ∧ w'.cell? ⟨bL, oL + t * 6, none⟩ = some (.int .i64 tc) ∧ w'.cell? ⟨bL, oL + t * 6 + 1, none⟩ = some (.int .i64 (tAt W.L t).fmt) ∧ w'.cell? ⟨bL, oL + t * 6 + 2, none⟩ = some (.int .i64 th) ∧ w'.cell? ⟨bL, oL + t * 6 + 3, none⟩ = some (.bool tn) ∧ w'.cell? ⟨bL, oL + t * 6 + 4, none⟩ = some (.slice AF (tAt W.L t).F.length cF) ∧ w'.cell? ⟨bL, oL + t * 6 + 5, none⟩ = some (.string tB)) (first | go_keep) (fail)
      refine then_name (fun w1' hW => ?_)
      have x1 : Ext wr w1' := by rw [hW]; exact ((Ext.refl wr).alloc _).drew
      have B9 : Hid (Blk w1' wr.heap.size 49 #[.int .i64 tc, .int .i64 (tAt W.L t).fmt, .int .i64 th, .bool tn, .slice AF (tAt W.L t).F.length cF, .string tB]) := Lib.hid (by rw [hW]; exact (Blk.new wr _ _).drew)
      have hle9 : w.heap.size ≤ wr.heap.size := JX.out.below.size
      replace JX := Lib.hid (JX.out.trans x1)
      replace JS := Lib.hid (JS.out.ext x1)
      replace JB := Lib.hid (JB.out.ext x1)
      replace OWH := Lib.hid (OWH.out.ext x1)
      have VF := Lib.hid (vf.ext JX.out)
      obtain ⟨r1, r2, r3⟩ := B9.out.rules
      clear hW x1 d0 d1 d2 d3 d4 d5 hbL hbL2 q2 q3 qc w5 w6 vf ef f1 f2
      generalize wr.heap.size = g9 at *
      have kw : k ≤ cW := by omega
      have kwI : (k : Int) ≤ (cW : Int) := by omega
      have k0 : (0 : Int) ≤ (k : Int) := by omega
      have kt : ((k : Int)).toNat = k := Int.toNat_natCast k
      go_upto_region 15 with (fail)
      refine wp_name (fun w2' hW => ?_)
      have x2 : Ext w1' w2' := by rw [hW]; exact (Ext.refl _).alloc _
      have O10 : Hid (OwnI w2' w1'.heap.size (.slice (some ⟨w1'.heap.size, 0, none⟩) 1 1) [tc]) := Lib.hid (by
        have q := own_flat1 (w := w2') (b := w1'.heap.size) (g := w1'.heap.size) (n := 1) (sz := 1) (e := 3) (c := fun i _ => .int .i64 (([tc] : List Int).getD i 0)) (by rw [hW]; exact Blk.new _ _ _) (Nat.le_refl _) (by omega)
        unfold Own at q
        have e : flat 1 1 (fun i _ => Value.int .i64 (([tc] : List Int).getD i 0)) = [tc].map (Value.int .i64) := flat_one [tc]
        rw [e] at q
        exact q)
      have hB10 : w.heap.size ≤ w1'.heap.size := JX.out.below.size
      have JX1 := JX
      have JS1 := JS
      have JB1 := JB
      have OW1 := OWH
      have B91 := B9
      have VF1 := VF
      have XX2 := Lib.hid x2
      replace JX := Lib.hid (JX.out.trans x2)
      replace JS := Lib.hid (JS.out.ext x2)
      replace JB := Lib.hid (JB.out.ext x2)
      replace OWH := Lib.hid (OWH.out.ext x2)
      replace B9 := Lib.hid (B9.out.ext x2)
      replace VF := Lib.hid (VF.out.ext x2)
      clear r1 r2 r3
      obtain ⟨r1, r2, r3⟩ := B9.out.rules
      clear hW x2 ka kb kc kd ke kf kg kw kwI k0 kt
      generalize hg10 : w1'.heap.size = g10 at *
      obtain ⟨gO, hgO⟩ : ∃ q, goesOn weak (tAt W.L t) = q := ⟨_, rfl⟩
      obtain ⟨fm, hfm⟩ : ∃ q, (tAt W.L t).fmt = q := ⟨_, rfl⟩
      have hgo2 : gO = (decide (fm = 1) || (decide (fm = 2) && weak)) := by rw [← hgO, ← hfm]; rfl
      rw [hgO] at NXE
      rw [hfm] at B9 r1 B91
      have HG := Lib.hid hgo2
      have F60 : gO = true → (tAt W.L t).F.length ≤ 60 := fun hg => by
        rcases hF60 with q | q
        · exact q
        · rw [hfm] at q
          rw [hgo2, q] at hg
          exact absurd hg (by cases weak <;> decide)
      clear hgO hfm hgo2 hF60
      have F60H := Lib.hid F60
      clear F60
      go_cut [66] from 56 to 66 (fun v wx => v = .bool gO ∧ wx = w2')
      case first =>
        by_cases h1 : fm = 1
        · have b1 : (fm == 1) = true := beq_iff_eq.2 h1
          have E1 := Lib.hid h1
          clear h1
          go_wp2_with fail
          go_meet
          exact ⟨by rw [HG.out, decide_eq_true E1.out]; rfl, rfl⟩
        · have b1 : (fm == 1) = false := beq_eq_false_iff_ne.2 h1
          by_cases h2 : fm = 2
          · have b2 : (fm == 2) = true := beq_iff_eq.2 h2
            have E1 := Lib.hid h1
            have E2 := Lib.hid h2
            clear h1 h2
            go_wp2_with fail
            go_meet
            exact ⟨by rw [HG.out, decide_eq_false E1.out, decide_eq_true E2.out]; simp, rfl⟩
          · have b2 : (fm == 2) = false := beq_eq_false_iff_ne.2 h2
            have E1 := Lib.hid h1
            have E2 := Lib.hid h2
            clear h1 h2
            go_wp2_with fail
            go_meet
            exact ⟨by rw [HG.out, decide_eq_false E1.out, decide_eq_false E2.out]; rfl, rfl⟩
      case rest =>
        obtain ⟨rfl, rfl⟩ := hcut
        obtain ⟨nF, hnF⟩ : ∃ q, (tAt W.L t).F.length = q := ⟨_, rfl⟩
        obtain ⟨Ft, hFt⟩ : ∃ q, (tAt W.L t).F = q := ⟨_, rfl⟩
        rw [hFt] at NXE VF VF1 F60H hnF
        rw [hFt, hnF] at B9 r1 B91
        rw [hnF] at VF VF1 F60H
        have HNF := Lib.hid hnF
        clear hFt hnF
        clear r1 r2 r3
        obtain ⟨r1, r2, r3⟩ := B9.out.rules
        obtain ⟨i0, hi, hz0, hz1, hz2⟩ := info_parts infoN
        obtain ⟨wb, rfl⟩ : ∃ q, q = wc := ⟨_, rfl⟩
        obtain ⟨nl, hnl⟩ : ∃ q, nxW W weak t = q := ⟨_, rfl⟩
        rw [hnl] at NXE
        have HNL := Lib.hid hnl
        clear hnl
        have hgb : g10 ≤ wb.heap.size := by
          have q : Own wb g10 3 _ _ _ _ := O10.out.own
          obtain ⟨_, cs, b⟩ := q.block (j := g10) rfl
          have := b.lt; omega
        go_upto_if 66 with (fail)
        go_cut [10] from 11 to 81 (fun v wx => (∃ A c, v = .slice A nl.length c ∧ OwnI wx g10 v nl) ∧ Ext w1' wx)
        case first =>
          cases gO with
          | false =>
            have e : nl = [tc] := NXE.out
            go_wp2_with fail
            go_meet
            exact ⟨⟨_, _, by rw [e]; rfl, by rw [e]; exact O10.out⟩, XX2.out⟩
          | true =>
            have NE : Hid (nl = tc :: objsOf (Ft.take nF)) := Lib.hid (by rw [← HNF.out, List.take_length]; exact NXE.out)
            have hn60 := F60H.out rfl
            have OT := Lib.hid (objs_take Ft)
            have OL := Lib.hid objs_len
            have O10' : Hid (OwnI wb g10 (.slice (some ⟨g10, 0, none⟩) 1 1) (tc :: objsOf (Ft.take 0))) := O10
            clear NXE
            go_wp2_with fail
            go_loopw [10, 70] (fun v jv wr => ∃ j : Nat, j ≤ nF ∧ jv = .int .i64 j ∧ (∃ A c m, v = .slice A m c ∧ (tc :: objsOf (Ft.take j)).length = m ∧ OwnI wr g10 (.slice A m c) (tc :: objsOf (Ft.take j))) ∧ Ext w1' wr) (fun v jv _ => nF - (intOf jv).toNat)
            case atStart => exact ⟨0, Nat.zero_le _, rfl, ⟨_, _, 1, rfl, rfl, O10'.out⟩, XX2.out⟩
            case round =>
              obtain ⟨j, hj, rfl, ⟨Am, cm, mm, rfl, hm, om⟩, xm⟩ := hrel
              have OM := Lib.hid om
              have XM := Lib.hid xm
              have HM := Lib.hid hm
              by_cases hlt : j < nF
              · have iI : (j : Int) < (nF : Int) := by omega
                obtain ⟨bF, oF, rfl, hbF, hcF⟩ := Row.at_ (show Row wr (.slice AF nF cF) nF 2 _ from by have q := VF1.out.ext xm; have e := HNF.out; unfold ValsAt at q; rw [e] at q; exact q) j hlt
                have c0 := hcF 0 (by omega)
                have c1 := hcF 1 (by omega)
                replace c0 : wr.cell? ⟨bF, oF + j * 2, none⟩ = some (.bool (vAt Ft j).obj) := c0
                replace c1 : wr.cell? ⟨bF, oF + j * 2 + 1, none⟩ = some (.int .i64 (vAt Ft j).n) := c1
                have ot := OT.out j (by rw [HNF.out]; exact hlt)
                have m61 : mm ≤ 61 := by
                  have q := OL.out (Ft.take j)
                  rw [List.length_take] at q
                  rw [← hm]
                  show (objsOf (Ft.take j)).length + 1 ≤ 61
                  omega
                generalize vAt Ft j = v at c0 c1 ot
                obtain ⟨vo, vn⟩ := v
                replace c0 : wr.cell? ⟨bF, oF + j * 2, none⟩ = some (.bool vo) := c0
                replace c1 : wr.cell? ⟨bF, oF + j * 2 + 1, none⟩ = some (.int .i64 vn) := c1
                have hwl : g10 ≤ wr.heap.size := by have := xm.below.size; omega
                have ht1 := B91.out.ext xm
                clear hcF om xm hm
                cases vo with
                | false =>
                  have OE : Hid (objsOf (Ft.take (j + 1)) = objsOf (Ft.take j)) := Lib.hid (by rw [ot]; simp)
                  clear ot
                  go_wp2_with fail
                  go_roundw
                  case rel => exact ⟨j + 1, by omega, by go_num, ⟨_, _, mm, rfl, by rw [OE.out]; exact HM.out, by rw [OE.out]; exact OM.out.ext ((Ext.refl _).alloc _)⟩, XM.out.alloc _⟩
                  case measure => simp [intOf]; omega
                | true =>
                  have OE : Hid (tc :: objsOf (Ft.take (j + 1)) = (tc :: objsOf (Ft.take j)) ++ [vn]) := Lib.hid (by rw [ot]; simp)
                  clear ot
                  go_upto_region 20 with (fail)
                  refine wp_name (fun wn hW => ?_)
                  have xn : Ext wr wn := by rw [hW]; exact (Ext.refl _).alloc _
                  obtain ⟨s1, s2, s3⟩ := (show Blk wn wr.heap.size 38 #[.bool true, .int .i64 vn] from by rw [hW]; exact Blk.new _ _ _).rules
                  have O2 : Hid (wn.ownsRow g10 3 1 (.slice Am mm cm) mm ((tc :: objsOf (Ft.take j)).map (Value.int .i64))) := Lib.hid (by
                    have q := OM.out.ext xn
                    unfold OwnI at q
                    rw [HM.out] at q; exact q)
                  have XN := Lib.hid (XM.out.trans xn)
                  have hnl : g10 ≤ wn.heap.size := by have := xn.below.size; omega
                  clear hW xn OM XM c0 c1
                  go_wp2_with (at_builtin; refine wpList_append_lies _ rfl _ _ _ rfl g10 3 i0 (.int .i64 0) 1 8 Tryz.underlying25 hi hz0 hz1 hz2 rfl (by decide) _ _ _ (by rfl) (World.ownsRow.alloc O2.out _) ⟨wn.heap.size, 0, none⟩ 1 1 [.int .i64 vn] (by rfl) (by rfl) (World.news_of_block (heap_alloc_new wn _)) (by simp [Value.oneCell']) (by omega) (by unfold maxLen; omega) (by omega) (by simp; omega) (wn.heap.size + 1) (by simp) ?_; intro gg cc w3 o3 g3 hat hlt3)
                  have kp : Keep (fun k => (Value.slice Am mm cm).ownBlock = some k) (wn.alloc (.cells #[.int .i64 vn] 3)) w3 := ⟨g3.os, g3.tape, g3.output, g3.size, fun k hk hn => g3.block k hk (fun e => hn e.symm)⟩
                  have X3 : Hid (Ext w1' w3) := Lib.hid (Ext.of_below (Keep.below (XN.out.alloc _).below kp (XN.out.alloc _).below.size (fun i hi hs => by
                    have q : Own wn g10 3 (.slice Am mm cm) (tc :: objsOf (Ft.take j)).length 1 _ := OwnI.own (by unfold OwnI; rw [HM.out]; exact O2.out)
                    have := (q.block hs).1; omega)))
                  have O3 : Hid (OwnI w3 g10 (.slice (some ⟨gg, 0, none⟩) (mm + 1) cc) (tc :: objsOf (Ft.take (j + 1)))) := Lib.hid (by
                    unfold OwnI
                    rw [OE.out, List.length_append, List.map_append, HM.out]; exact o3)
                  clear o3 g3 hat kp O2 XN s1 s2 s3
                  go_roundw
                  case rel => exact ⟨j + 1, by omega, by go_num, ⟨_, _, mm + 1, rfl, by rw [OE.out, List.length_append, HM.out]; rfl, O3.out⟩, X3.out⟩
                  case measure => simp [intOf]; omega
              · obtain rfl : j = nF := by omega
                have e := NE.out
                clear om hm
                go_wp2_with fail
                go_meet
                exact ⟨⟨_, _, by rw [e, HM.out], by rw [e]; exact OM.out⟩, xm⟩
        case rest =>
          obtain ⟨⟨An, cn, rfl, on⟩, xn⟩ := hcut
          have hn2 : n = 2 * unseen seen + (k + 1) := by
            have q := HN.out
            simp only [List.length_append, List.length_singleton] at q
            rw [hkk] at q
            omega
          have apn : Apart (.slice An nl.length cn) (.slice (some ⟨gW, 0, none⟩) k cW) := fun j hj hu => by
            have a := (OW1.out.own.block hu)
            obtain ⟨_, cs, b⟩ := a
            have := b.lt
            have := (on.own.block hj).1
            omega
          have L0 : Hid (WL w W ⟨.slice (some ⟨bL, oL, none⟩) W.L.length cL, fs, vD, vRe, vWa, vDu, vSn⟩ weak w.heap.size gS g10 t (.slice An nl.length cn) nl (2 * unseen seen + k) 0 seen st (.slice (some ⟨gW, 0, none⟩) k cW) wc) := Lib.hid ⟨by rw [List.take_zero]; have q := WMH.out; rwa [Int.toNat_natCast] at q, OW1.out.ext xn, JS1.out.ext xn, JB1.out.ext xn, JX1.out.trans xn, on, apn, by rw [hkk]; exact Nat.le_refl _, by have := xn.below.size; omega⟩
          have HN2 := Lib.hid hn2
          have HNB := Lib.hid hnb
          have HKK := Lib.hid hkk
          have NXL : Hid (∀ j ∈ nl, 0 ≤ j ∧ j < W.L.length) := Lib.hid (by rw [← HNL.out]; exact NXt.out)
          clear on xn apn hn2 hnb r1 r2 r3 hkk hk20 B91 VF1 JX1 JS1 JB1 OW1 XX2 O10 JX JS JB OWH WMH NXt VF B9 NXE HN HNF HG F60H
          go_wp2_with fail
          go_step3
          go_wp2_with fail
          go_loopw [6, 84] (fun v iv wr => ∃ q : Nat, q ≤ nl.length ∧ iv = .int .i64 q ∧ ∃ (seen' : List Bool) (stack' : List Int) (A : Option Addr) (c m : Nat), v = .slice A m c ∧ stack'.length = m ∧ WL w W ⟨.slice (some ⟨bL, oL, none⟩) W.L.length cL, fs, vD, vRe, vWa, vDu, vSn⟩ weak w.heap.size gS g10 t (.slice An nl.length cn) nl (2 * unseen seen + k) q seen' stack' (.slice A m c) wr) (fun v iv _ => nl.length - (intOf iv).toNat)
          case atStart => exact ⟨0, Nat.zero_le _, rfl, _, _, _, _, _, rfl, HKK.out, L0.out⟩
          case round =>
            clear L0
            obtain ⟨q, hq, rfl, seen', stack', A, c, m, rfl, hm, L⟩ := hrel
            have LH := Lib.hid L
            have HM := Lib.hid hm
            by_cases hlt : q < nl.length
            · have iI : (q : Int) < (nl.length : Int) := by omega
              obtain ⟨gN, cN', eN, _, _, hgN1, hgN, cq, fz⟩ := L.on.at0 q hlt
              injection eN with e1 e2 e3
              subst e1
              clear e2 e3
              have hy : nl.getD q 0 ∈ nl := by rw [List.getD_eq_getElem?_getD, List.getElem?_eq_getElem hlt]; exact List.getElem_mem hlt
              have tk : nl.take (q + 1) = nl.take q ++ [nl.getD q 0] := by rw [List.take_succ_eq_append_getElem hlt, List.getD_eq_getElem?_getD, List.getElem?_eq_getElem hlt]; rfl
              have hyr := NXL.out _ hy
              generalize nl.getD q 0 = y at *
              obtain ⟨s, rfl⟩ := Int.eq_ofNat_of_zero_le hyr.1
              have sI : (s : Int) < (W.L.length : Int) := hyr.2
              have sN : s < W.L.length := by omega
              have cs := seen_cell L.bS s (by rw [L.wm.len]; exact sN)
              have fs' : wr.frozen? ⟨gS, s, none⟩ = false := L.bS.frozen s
              have hSl : gS < wr.heap.size := L.bS.lt
              have TK := Lib.hid tk
              have HY := Lib.hid hy
              have hmx := L.mx
              rw [hm] at hmx
              have hm2 : m < 30000 := by have := HNB.out; have := HN2.out; omega
              clear tk hy hyr hm hmx
              cases hsb : sB seen' s with
              | true =>
                rw [hsb] at cs
                have W2 := Lib.hid (L.wm.skip (j := (s : Int)) (by rw [Int.toNat_natCast]; exact hsb))
                clear L hsb
                go_wp2_with fail
                go_roundw
                case rel => exact ⟨q + 1, by omega, by go_num, seen', stack', A, c, m, rfl, HM.out, ⟨by rw [TK.out]; exact W2.out, LH.out.ow, LH.out.bS, LH.out.b2, LH.out.x, LH.out.on, LH.out.ap, LH.out.mx, LH.out.hg⟩⟩
                case measure => simp [intOf]; omega
              | false =>
                rw [hsb] at cs
                have W2 := Lib.hid (L.wm.push (j := (s : Int)) (by rw [show nxW W weak t = nl from HNL.out]; exact HY.out) ⟨by omega, sI⟩ (by rw [Int.toNat_natCast]; exact hsb))
                clear L hsb
                go_upto_region 27 with (fail)
                refine wp_name (fun wS hW => ?_)
                have hJS := JHS.out
                have n2 : w.heap.size ≠ gS := LH.out.b2.ne LH.out.bS (by decide)
                have bS' : Blk wS gS 4 ((seen'.set s true).map Value.bool).toArray := by rw [hW, ← arr_set]; exact LH.out.bS.set s _
                have ow' : OwnI wS w.heap.size (.slice A m c) stack' := by rw [hW]; exact LH.out.ow.set LH.out.bS (by decide)
                have on' : OwnI wS g10 (.slice (some ⟨gN, 0, none⟩) nl.length cn) nl := by rw [hW]; exact LH.out.on.set LH.out.bS (by decide)
                have b2' : Blk wS w.heap.size 31 (cellsW W ⟨.slice (some ⟨bL, oL, none⟩) W.L.length cL, fs, vD, vRe, vWa, vDu, vSn⟩) := by rw [hW]; exact LH.out.b2.far n2 _
                have x' : Ext w wS := by rw [hW]; exact LH.out.x.setNew (p := ⟨gS, s, none⟩) hJS _
                have hgS : g10 ≤ wS.heap.size := by rw [hW]; have := LH.out.hg; simpa using this
                have OW' := Lib.hid ow'
                have ON' := Lib.hid on'
                have BS' := Lib.hid bS'
                have B2' := Lib.hid b2'
                have X' := Lib.hid x'
                have O2 : Hid (wS.ownsRow w.heap.size 3 1 (.slice A m c) m (stack'.map (Value.int .i64))) := Lib.hid (by
                  have q := ow'
                  unfold OwnI at q
                  rw [HM.out] at q; exact q)
                have hwl : w.heap.size ≤ wS.heap.size := x'.below.size
                clear hW bS' ow' on' b2' x' cs fs' hSl cq fz hgN n2 hJS
                go_wp2_with (at_builtin; refine wpList_append_lies _ rfl _ _ _ rfl w.heap.size 3 i0 (.int .i64 0) 1 8 Tryz.underlying25 hi hz0 hz1 hz2 rfl (by decide) _ _ _ (by rfl) (World.ownsRow.alloc O2.out _) ⟨wS.heap.size, 0, none⟩ 1 1 [.int .i64 (s : Int)] (by rfl) (by rfl) (World.news_of_block (heap_alloc_new wS _)) (by simp [Value.oneCell']) (by omega) (by unfold maxLen; omega) (by omega) (by simp; omega) (wS.heap.size + 1) (by simp) ?_; intro gg cc w3' o3 g3 hat hlt3)
                have kp : Keep (fun k => (Value.slice A m c).ownBlock = some k) (wS.alloc (.cells #[.int .i64 (s : Int)] 3)) w3' := ⟨g3.os, g3.tape, g3.output, g3.size, fun k hk hn => g3.block k hk (fun e => hn e.symm)⟩
                have BD := OwnI.beside (n' := m + 1) (cc := cc) ON'.out LH.out.ap g3 hat
                have L3 : Hid (WL w W ⟨.slice (some ⟨bL, oL, none⟩) W.L.length cL, fs, vD, vRe, vWa, vDu, vSn⟩ weak w.heap.size gS g10 t (.slice (some ⟨gN, 0, none⟩) nl.length cn) nl (2 * unseen seen + k) (q + 1) (seen'.set s true) (stack' ++ [(s : Int)]) (.slice (some ⟨gg, 0, none⟩) (m + 1) cc) w3') := Lib.hid (by
                  have e1 := W2.out
                  rw [Int.toNat_natCast] at e1
                  refine ⟨by rw [TK.out]; exact e1.1, ?_, ?_, ?_, ?_, BD.1, BD.2, ?_, ?_⟩
                  · unfold OwnI
                    rw [List.length_append, List.map_append, HM.out]; exact o3
                  · exact (BS'.out.alloc _).keep kp (fun e => by
                      obtain ⟨_, cs, b⟩ := OW'.out.own.block (j := gS) e
                      exact (BS'.out.ne b (by decide)) rfl)
                  · exact (B2'.out.alloc _).keep kp (fun e => by
                      obtain ⟨_, cs, b⟩ := OW'.out.own.block (j := w.heap.size) e
                      exact (B2'.out.ne b (by decide)) rfl)
                  · exact Ext.of_below (Keep.below (X'.out.alloc _).below kp (X'.out.alloc _).below.size (fun i hi hs => by have := (OW'.out.own.block hs).1; omega))
                  · have a := LH.out.mx
                    have b := e1.2
                    rw [List.length_append]
                    show 2 * unseen (seen'.set s true) + (stack'.length + 1) ≤ _
                    omega
                  · have := kp.size
                    simp at this
                    omega)
                clear o3 g3 hat kp BD O2
                go_roundw
                case rel => exact ⟨q + 1, by omega, by go_num, _, _, _, _, m + 1, rfl, by rw [List.length_append, HM.out]; rfl, L3.out⟩
                case measure => simp [intOf]; omega
            · obtain rfl : q = nl.length := by omega
              have ws : WS W.L.length (nxW W weak) (rootsOf W.R) seen' stack' := by
                have h := L.wm
                rw [List.take_length] at h
                exact WM.fin (t := t) (by rw [show nxW W weak t = nl from HNL.out]; exact h)
              have WSH := Lib.hid ws
              clear ws L hm
              go_wp2_with fail
              go_step3
              refine ⟨rfl, _, ?_, gS, seen', stack', .slice A m c, WSlt.intro _ _ _ _ _ _ _ rfl, ⟨WSH.out, LH.out.ow, LH.out.bS, LH.out.b2, LH.out.x, JHS.out⟩, rfl, ?_⟩
              · have := LH.out.mx; have := HN2.out; omega
              · have := LH.out.mx; have := HN2.out; have := HNB.out; omega
  · intro body
    have BODY := Lib.hid body
    have RI := Lib.hid (roots_in hck)
    have RLN := roots_len hck
    have MK := make_bool W.L.length (by omega)
    have CW := Lib.hid (show cellsW W ⟨.slice AL W.L.length cL, fs, vD, vRe, vWa, vDu, vSn⟩ = #[.slice AL W.L.length cL, vD, .int .i64 W.last, .int .i64 W.R.proc, .int .i64 W.R.frame, vRe, vWa, vDu, .string W.R.out, .string W.R.inp, .int .i64 W.R.how, .int .i64 W.R.exit, vSn] from rfl)
    clear body HL HV NXI HW
    rw [hck] at C
    rw [CW.out] at C D
    rw [CW.out]
    have XX := Lib.hid ((Ext.refl w).alloc (.cells #[.slice AL W.L.length cL, vD, .int .i64 W.last, .int .i64 W.R.proc, .int .i64 W.R.frame, vRe, vWa, vDu, .string W.R.out, .string W.R.inp, .int .i64 W.R.how, .int .i64 W.R.exit, vSn] 31))
    have BB := Lib.hid (Blk.new w 31 #[.slice AL W.L.length cL, vD, .int .i64 W.last, .int .i64 W.R.proc, .int .i64 W.R.frame, vRe, vWa, vDu, .string W.R.out, .string W.R.inp, .int .i64 W.R.how, .int .i64 W.R.exit, vSn])
    go_wp2_with fail
    refine (C.out _ XX.out).mono ?_
    rintro e w2 ⟨rfl, x2⟩
    obtain ⟨q2, f2, lt2⟩ := (BB.out.ext x2).rules
    have X2 := Lib.hid (XX.out.trans x2)
    have B2 := Lib.hid (BB.out.ext x2)
    clear x2 C XX BB
    go_wp2_with fail
    refine calls_name (fun w3 hW => ?_)
    have x3 : Ext w2 w3 := by rw [hW]; exact (Ext.refl _).alloc _
    have B2c : Blk w3 w.heap.size 31 (cellsW W ⟨.slice AL W.L.length cL, fs, vD, vRe, vWa, vDu, vSn⟩) := by rw [CW.out]; exact B2.out.ext x3
    have bS0 : Blk w3 w2.heap.size 4 (((List.replicate W.L.length false).map Value.bool).toArray) := by
      rw [hW]
      have e : ((List.replicate W.L.length false).map Value.bool).toArray = Array.replicate W.L.length (.bool false) := by simp
      rw [e]; exact Blk.new _ _ _
    have hS0 : w.heap.size ≤ w2.heap.size := X2.out.below.size
    have X3 := Lib.hid (X2.out.trans x3)
    have BS0 := Lib.hid bS0
    have B3c := Lib.hid B2c
    clear hW x3 B2c bS0 X2 MK
    generalize w2.heap.size = gS at *
    have DD := Lib.hid (D.out w3 X3.out hck'.out)
    clear D q2 f2 lt2 B2
    refine DD.out.mono ?_
    rintro e w4 ⟨v4, rfl, o4, x4⟩
    obtain ⟨A4, c4, hv4⟩ := o4.own.form
    have hv4 : v4 = .slice A4 (rootsOf W.R).length c4 := hv4
    subst hv4
    have X4 := Lib.hid (X3.out.trans x4)
    have BS4 := Lib.hid (BS0.out.ext x4)
    have B4 := Lib.hid (B3c.out.ext x4)
    have O4 := Lib.hid (o4.base X3.out.below.size)
    clear o4 x4 DD X3 BS0 B3c
    generalize hrt : rootsOf W.R = rt at *
    have HRT := Lib.hid hrt
    clear hrt
    go_wp2_with fail
    go_loopw [26] (fun iv wr => ∃ q : Nat, q ≤ rt.length ∧ iv = .int .i64 q ∧ ∃ seen : List Bool, seen.length = W.L.length ∧ (∀ i : Nat, sB seen i = true ↔ (i : Int) ∈ rt.take q) ∧ Blk wr gS 4 (seen.map Value.bool).toArray ∧ OwnI wr w.heap.size (.slice A4 rt.length c4) rt ∧ Blk wr w.heap.size 31 (cellsW W ⟨.slice AL W.L.length cL, fs, vD, vRe, vWa, vDu, vSn⟩) ∧ Ext w wr) (fun iv _ => rt.length - (intOf iv).toNat)
    case atStart =>
      have h0 : ∀ i : Nat, sB (List.replicate W.L.length false) i = true ↔ (i : Int) ∈ rt.take 0 := fun i => by
        constructor
        · intro h
          have hlt := sB_lt h
          rw [List.length_replicate] at hlt
          unfold sB at h
          rw [List.getD_eq_getElem?_getD, List.getElem?_replicate, if_pos hlt] at h
          cases h
        · intro h; rw [List.take_zero] at h; cases h
      exact ⟨0, Nat.zero_le _, rfl, List.replicate W.L.length false, by simp, h0, BS4.out, O4.out, B4.out, X4.out⟩
    case round =>
      clear BS4 O4 B4 X4
      obtain ⟨q, hq, rfl, seen, hsl, hsp, bS, ow, b2, xr⟩ := hrel
      have LH := Lib.hid (And.intro hsl (And.intro hsp (And.intro bS (And.intro ow (And.intro b2 xr)))))
      by_cases hlt : q < rt.length
      · have iI : (q : Int) < (rt.length : Int) := by omega
        obtain ⟨gN, cN', eN, _, _, hgN1, hgN, cq, fz⟩ := ow.at0 q hlt
        injection eN with e1 e2 e3
        subst e1
        clear e2 e3
        have hy : rt.getD q 0 ∈ rt := by rw [List.getD_eq_getElem?_getD, List.getElem?_eq_getElem hlt]; exact List.getElem_mem hlt
        have tk : rt.take (q + 1) = rt.take q ++ [rt.getD q 0] := by rw [List.take_succ_eq_append_getElem hlt, List.getD_eq_getElem?_getD, List.getElem?_eq_getElem hlt]; rfl
        have hyr := RI.out _ hy
        generalize rt.getD q 0 = y at *
        obtain ⟨s, rfl⟩ := Int.eq_ofNat_of_zero_le hyr.1
        have sI : (s : Int) < (W.L.length : Int) := hyr.2
        have sN : s < seen.length := by omega
        have cs := seen_cell bS s sN
        have fs' : wr.frozen? ⟨gS, s, none⟩ = false := bS.frozen s
        have hSl : gS < wr.heap.size := bS.lt
        have n2 : w.heap.size ≠ gS := b2.ne bS (by decide)
        have L2 : Hid ((seen.set s true).length = W.L.length ∧ (∀ i : Nat, sB (seen.set s true) i = true ↔ (i : Int) ∈ rt.take (q + 1)) ∧ Blk (wr.setCell ⟨gS, s, none⟩ (.bool true)) gS 4 ((seen.set s true).map Value.bool).toArray ∧ OwnI (wr.setCell ⟨gS, s, none⟩ (.bool true)) w.heap.size (.slice (some ⟨gN, 0, none⟩) rt.length c4) rt ∧ Blk (wr.setCell ⟨gS, s, none⟩ (.bool true)) w.heap.size 31 (cellsW W ⟨.slice AL W.L.length cL, fs, vD, vRe, vWa, vDu, vSn⟩) ∧ Ext w (wr.setCell ⟨gS, s, none⟩ (.bool true))) := Lib.hid (by
          refine ⟨by rw [List.length_set]; exact hsl, fun i => ?_, by rw [← arr_set]; exact bS.set s _, ow.set bS (by decide), b2.far n2 _, xr.setNew (p := ⟨gS, s, none⟩) hS0 _⟩
          rw [sB_set _ _ _ sN, tk, List.mem_append, List.mem_singleton]
          by_cases e : i = s
          · rw [if_pos e]; exact ⟨fun _ => .inr (by omega), fun _ => rfl⟩
          · rw [if_neg e, hsp i]
            exact ⟨fun h => .inl h, fun h => by
              rcases h with h | h
              · exact h
              · omega⟩)
        clear tk hy hyr hsl hsp bS ow b2 xr sN n2 LH
        go_wp2_with fail
        go_roundw
        case rel => exact ⟨q + 1, by omega, by go_num, _, L2.out⟩
        case measure => simp [intOf]; omega
      · obtain rfl : q = rt.length := by omega
        have ws : WS W.L.length (nxW W weak) (rootsOf W.R) seen rt := by
          rw [HRT.out]
          rw [List.take_length] at hsp
          exact WS.start hsl RI.out hsp
        have WSH := Lib.hid ws
        have ub := unseen_le seen
        have HSL := Lib.hid hsl
        clear ws hsl hsp bS ow b2 xr
        go_wp2_with fail
        go_step3
        refine ‹∀ (a_1 : Act) (w_1 : World), Code.wp _ _ (Exit.jump 0 (fun a w_1 => ∃ n, WJn w W ⟨.slice AL W.L.length cL, fs, vD, vRe, vWa, vDu, vSn⟩ weak w.heap.size n a w_1) _) a_1 w_1 → _› _ _ ?_
        refine BODY.out (2 * unseen seen + rt.length) _ _ ?_
        refine ⟨gS, seen, rt, .slice A4 rt.length c4, WSlt.intro _ _ _ _ _ _ _ rfl, ⟨WSH.out, LH.out.2.2.2.1, LH.out.2.2.1, LH.out.2.2.2.2.1, LH.out.2.2.2.2.2, hS0⟩, rfl, ?_⟩
        have := HSL.out
        omega
end Go.Proofs.YtjpalcejmloocaaGreat.World
