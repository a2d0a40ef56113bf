/-
  Quiets, as one text (a claim has at most 60 files).
-/
import Derived.Test.YtjpalcejmloocaaGreatVq54
import Derived.Test.YtjpalcejmloocaaGreatVq22
import Derived.BigGuardPart
namespace Go.Proofs.YtjpalcejmloocaaGreat.World
open Go.RowKit Go.ChangeShapes Go.WideShapes Go.Proofs.YtjpalcejmloocaaGreat.Plain
set_option linter.unusedVariables false
attribute [local go_sem ↓] Go.wp_at_zero Go.wp_at_succ
theorem quiet_at {l : List EV} {i : Nat} (hi : i < l.length) (h : (eAt l i).k ≠ 2) : (quietE (l.take i)).length < (quietE l).length ∧ eAt (quietE l) (quietE (l.take i)).length = eAt l i := by
  have e : quietE l = quietE (l.take i) ++ (eAt l i :: quietE (l.drop (i + 1))) := by
    have e1 : l = l.take i ++ (l[i] :: l.drop (i + 1)) := by rw [← List.drop_eq_getElem_cons hi, List.take_append_drop]
    have e2 : eAt l i = l[i] := by unfold eAt; rw [List.getD_eq_getElem?_getD, List.getElem?_eq_getElem hi]; rfl
    rw [e2] at h ⊢
    unfold quietE
    conv => lhs; rw [e1]
    rw [List.filter_append, List.filter_cons_of_pos (by simpa using h)]
  constructor
  · rw [e, List.length_append, List.length_cons]; omega
  · unfold eAt
    rw [e, List.getD_eq_getElem?_getD, List.getElem?_append_right (Nat.le_refl _), Nat.sub_self]
    rfl
section
variable {w : World}
theorem place1 (k : Int) (w : World) : Calls Tryz.prog 6 #[.int .i64 k, .int .i64 1] w fun e w' => e = .returned (.int .i64 0) ∧ Ext w w' := by
  have h1 : Int.tmod k 1 = 0 := Int.tmod_one k
  go_enter Tryz.func6, Tryz.ntmps6
  go_wp2
  all_goals go_ret
  all_goals exact ⟨ret_int (by simp), Ext.refl w⟩
set_option maxRecDepth 100000 in
set_option maxHeartbeats 4000000 in
theorem vmQuiets {v : Value} {l : List EV} (h : Row w v l.length 3 (cE l)) :
    Calls Tryz.prog 4 #[v] w fun e w' => e = .returned (.bool true) ∧ Ext w w' := by
  obtain ⟨A0, c0, ev, lc, lm⟩ := Row.form h
  subst ev
  have HH := Lib.hid h
  clear h
  obtain ⟨iE, hE, hE0, hE1, hE2⟩ := info_parts infoE
  by_cases hlen : 200 < l.length
  · have hI : (200 : Int) < (l.length : Int) := by omega
    go_enter Tryz.func4, Tryz.ntmps4
    go_big_wp2_with fail
    refine (awake27 w).mono ?_
    rintro e w2 ⟨rfl, x2⟩
    have X2 := Lib.hid x2
    clear x2
    go_big_wp2_with fail
    go_ret
    exact ⟨rfl, X2.out⟩
  · have hI : (l.length : Int) ≤ 200 := by omega
    have hn : l.length ≤ 200 := by omega
    clear hlen
    go_enter Tryz.func4, Tryz.ntmps4
    go_upto_region 4 with (at_builtin; refine wpList_append_nil rfl (.tmp 11) 60 rfl 63 iE (.agg #[.int .i64 0, .int .i64 0, .string ByteArray.empty]) 3 32 Tryz.underlying60 hE hE0 hE1 hE2 rfl (by decide) (by decide) rfl HH.out (fun i j => cE_one l i j) (by omega : l.length ≤ 1000000) ?_; intro v' u5 o2 x2; obtain ⟨A2, c2, e2⟩ := Own.form o2; subst e2; have O2 := Lib.hid o2; have X2 := Lib.hid x2; clear o2 x2)
    go_upto_region 5 with (go_at_call 18; refine (quiet_ O2.out.row (by omega)).mono ?_; rintro e w6 ⟨A4, c4, rfl, o4, x4⟩; have O4 := Lib.hid o4; have X4 := Lib.hid x4; clear o4 x4)
    have H6 := Lib.hid (HH.out.ext (X2.out.trans X4.out))
    have Y6 := Lib.hid (O2.out.row.ext X4.out)
    have Z6 := Lib.hid O4.out.row
    have X6 := Lib.hid (X2.out.trans X4.out)
    have QA := Lib.hid (fun i (hi : i < l.length) h => quiet_at (l := l) (i := i) hi h)
    have QY := Lib.hid (fun i (hi : i < l.length) h => quiet_yes (l := l) (i := i) hi h)
    have QN := Lib.hid (fun i (hi : i < l.length) h => quiet_no (l := l) (i := i) hi h)
    have QE : Hid ((quietE (l.take l.length)).length = (quietE l).length) := Lib.hid (by rw [List.take_length])
    have ML : Hid ((quietE l).length ≤ 200) := Lib.hid (Nat.le_trans (List.length_filter_le _ _) hn)
    clear O2 O4 X2 X4 HH
    obtain ⟨A5, c5, e4, k4, k4'⟩ := Row.form Z6.out
    injection e4 with ea _ ec
    subst ea ec
    generalize hml : (quietE l).length = ml at *
    clear hml
    have hE' := hn
    clear hE hE0 hE1 hE2 hE'
    go_big_wp2_with fail
    go_loopw [5, 6] (fun nv iv wr => ∃ i : Nat, i ≤ l.length ∧ iv = .int .i64 i ∧ ∃ n : Nat, (quietE (l.take i)).length = n ∧ nv = .int .i64 n ∧ Ext w6 wr) (fun _ iv _ => l.length - (intOf iv).toNat)
    case atStart => exact ⟨0, Nat.zero_le _, rfl, 0, by rw [List.take_zero]; rfl, rfl, Ext.refl _⟩
    case round =>
      obtain ⟨i, hi, rfl, n, hn2, rfl, x⟩ := hrel
      have X := Lib.hid x
      have HN := Lib.hid hn2
      clear x hn2
      by_cases hlt : i < l.length
      · have iI : (i : Int) < (l.length : Int) := by omega
        obtain ⟨b, off, rfl, hb, hc⟩ := Row.at_ (H6.out.ext X.out) i hlt
        have d0 : wr.cell? ⟨b, off + i * 3, none⟩ = some (.int .i64 (eAt l i).k) := hc 0 (by omega)
        have d1 : wr.cell? ⟨b, off + i * 3 + 1, none⟩ = some (.int .i64 (eAt l i).n) := hc 1 (by omega)
        have d2 : wr.cell? ⟨b, off + i * 3 + 2, none⟩ = some (.string (eAt l i).s) := hc 2 (by omega)
        obtain ⟨b2, off2, rfl, hb2, hc2⟩ := Row.at_ (Y6.out.ext X.out) i hlt
        have y0 : wr.cell? ⟨b2, off2 + i * 3, none⟩ = some (.int .i64 (eAt l i).k) := hc2 0 (by omega)
        have y1 : wr.cell? ⟨b2, off2 + i * 3 + 1, none⟩ = some (.int .i64 (eAt l i).n) := hc2 1 (by omega)
        have y2 : wr.cell? ⟨b2, off2 + i * 3 + 2, none⟩ = some (.string (eAt l i).s) := hc2 2 (by omega)
        have Y := Lib.hid (QY.out i hlt)
        have N := Lib.hid (QN.out i hlt)
        have Q := Lib.hid (QA.out i hlt)
        rw [HN.out] at Q
        clear hc hc2
        have ZX := Lib.hid (Z6.out.ext X.out)
        have U := Lib.hid (fun (k : Nat) (hk : k < ml) => Row.at_ ZX.out k hk)
        generalize hu : eAt l i = u at *
        clear hu
        obtain ⟨uk, un, us⟩ := u
        simp only at d0 d1 d2 y0 y1 y2
        by_cases h2 : uk = 2
        · have e1 : (uk == 2) = true := by simp [h2]
          have EQ := Lib.hid (N.out h2)
          clear h2 Q U Y
          go_big_wp2_with fail
          refine wp_region_ext (by kernel_rfl) (by kernel_rfl) ?_
          repeat (go_big_quiet_step (fail))
          refine wpQuiet_nil ?_
          rintro W3 x3
          replace x3 : Ext wr W3 := x3
          have X3 := Lib.hid (X.out.trans x3)
          replace d0 := (x3.below.cell (p := ⟨b, off + i * 3, none⟩) hb).trans d0
          replace d1 := (x3.below.cell (p := ⟨b, off + i * 3 + 1, none⟩) hb).trans d1
          replace d2 := (x3.below.cell (p := ⟨b, off + i * 3 + 2, none⟩) hb).trans d2
          replace hb := Nat.lt_of_lt_of_le hb x3.below.size
          clear y0 y1 y2 hb2 x3 X
          go_big_wp2_with fail
          go_roundw
          case rel => exact ⟨i + 1, by omega, by go_num, n, by rw [EQ.out]; exact HN.out, rfl, X3.out⟩
          case measure => simp [intOf] <;> omega
        · have e1 : (uk == 2) = false := beq_eq_false_iff_ne.2 h2
          have EQ := Lib.hid (Y.out h2)
          have q := Q.out h2
          have nI : (n : Int) < (ml : Int) := by omega
          have nG : decide (ml ≤ n) = false := decide_eq_false (by omega)
          obtain ⟨b4, off4, rfl, hb4, hc4⟩ := U.out n q.1
          unfold cE at hc4
          rw [q.2] at hc4
          have m0 : wr.cell? ⟨b4, off4 + n * 3, none⟩ = some (.int .i64 uk) := hc4 0 (by omega)
          have m1 : wr.cell? ⟨b4, off4 + n * 3 + 1, none⟩ = some (.int .i64 un) := hc4 1 (by omega)
          have m2 : wr.cell? ⟨b4, off4 + n * 3 + 2, none⟩ = some (.string us) := hc4 2 (by omega)
          clear h2 Q U Y N q hc4
          go_big_wp2_with fail
          refine wp_region_ext (by kernel_rfl) (by kernel_rfl) ?_
          repeat (go_big_quiet_step (fail))
          refine wpQuiet_nil ?_
          rintro W3 x3
          replace x3 : Ext wr W3 := x3
          have X3 := Lib.hid (X.out.trans x3)
          replace d0 := (x3.below.cell (p := ⟨b, off + i * 3, none⟩) hb).trans d0
          replace d1 := (x3.below.cell (p := ⟨b, off + i * 3 + 1, none⟩) hb).trans d1
          replace d2 := (x3.below.cell (p := ⟨b, off + i * 3 + 2, none⟩) hb).trans d2
          replace hb := Nat.lt_of_lt_of_le hb x3.below.size
          replace m0 := (x3.below.cell (p := ⟨b4, off4 + n * 3, none⟩) hb4).trans m0
          replace m1 := (x3.below.cell (p := ⟨b4, off4 + n * 3 + 1, none⟩) hb4).trans m1
          replace m2 := (x3.below.cell (p := ⟨b4, off4 + n * 3 + 2, none⟩) hb4).trans m2
          replace hb4 := Nat.lt_of_lt_of_le hb4 x3.below.size
          clear y0 y1 y2 hb2 x3 X
          go_big_wp2_with fail
          refine wp_region_ext (by kernel_rfl) (by kernel_rfl) ?_
          repeat (go_big_quiet_step (fail))
          refine wpQuiet_nil ?_
          rintro W4 x4
          replace x4 : Ext W3 W4 := x4
          have X4 := Lib.hid (X3.out.trans x4)
          clear d0 d1 d2 m0 m1 m2 hb hb4 x4 X3
          go_big_wp2_with fail
          go_roundw
          case rel => exact ⟨i + 1, by omega, by go_num, n + 1, by rw [EQ.out, List.length_append, HN.out]; rfl, by go_num, X4.out⟩
          case measure => simp [intOf] <;> omega
      · obtain rfl : i = l.length := by omega
        have en : n = ml := by rw [← HN.out]; exact QE.out
        subst en
        have XE := Lib.hid (X6.out.trans X.out)
        clear HN X X6
        go_big_wp2_with fail
        refine (place1 _ _).mono ?_
        rintro e w8 ⟨rfl, x8⟩
        have X8 := Lib.hid (XE.out.trans x8)
        clear x8 XE
        go_big_wp2_with fail
        refine (awake27 _).mono ?_
        rintro e w9 ⟨rfl, x9⟩
        have X9 := Lib.hid (X8.out.trans x9)
        clear x9 X8
        go_big_wp2_with fail
        go_ret
        exact ⟨rfl, X9.out⟩
set_option maxRecDepth 100000 in
theorem vmQuietsArg {H : Type} {enc : TypeId × Value → H} {r : Reach} {b0 : Nat} {d : DataW H} {p : List MemPlace} (v : Value) (w : World)
    (hv : Value.okWide Tryz.prog w r b0 60 v) (h : DataW.Trod enc Tryz.prog w 0 (fun _ => true) true 60 v d p) :
    Calls Tryz.prog 4 #[v] w fun e w' => e = .returned (.bool true) ∧ Below w.heap.size w w' := by
  obtain ⟨l, hl, _, _⟩ := open_events hv h
  exact (vmQuiets hl).mono fun e w' ⟨he, hx⟩ => ⟨he, hx.below⟩
end
end Go.Proofs.YtjpalcejmloocaaGreat.World
