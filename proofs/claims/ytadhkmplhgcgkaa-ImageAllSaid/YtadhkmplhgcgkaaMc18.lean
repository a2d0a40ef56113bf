/-
  Reach10, as one text (a claim has at most 60 files).
-/
import Derived.Test.YtadhkmplhgcgkaaMc17
namespace Go.Proofs.Ytadhkmplhgcgkaa.World
open Go.RowKit Go.Proofs.Ytadhkmplhgcgkaa.Plain
set_option linter.unusedVariables false
attribute [local go_sem ↓] Go.wp_at_zero Go.wp_at_succ
def toldL (f : Int → Int) (l : List Int) (i : Nat) : List Int := (l.take i).map (toldN f) ++ l.drop i
theorem toldL_len (f : Int → Int) (l : List Int) (i : Nat) : (toldL f l i).length = l.length := by unfold toldL; simp; omega
theorem toldL_0 (f : Int → Int) (l : List Int) : toldL f l 0 = l := by unfold toldL; simp
theorem toldL_all (f : Int → Int) (l : List Int) : toldL f l l.length = l.map (toldN f) := by unfold toldL; simp
theorem toldL_at (f : Int → Int) (l : List Int) (i : Nat) (hi : i < l.length) : (toldL f l i).getD i 0 = l.getD i 0 := by
  unfold toldL
  rw [List.getD_eq_getElem?_getD, List.getElem?_append_right (by simp; omega), List.getElem?_drop, List.getD_eq_getElem?_getD]
  simp
  congr 2; omega
theorem toldL_set (f : Int → Int) (l : List Int) (i : Nat) (hi : i < l.length) : (toldL f l i).set i (toldN f (l.getD i 0)) = toldL f l (i + 1) := by
  apply List.ext_getElem?
  intro q
  rw [List.getElem?_set, toldL_len]
  unfold toldL
  by_cases e : i = q
  · subst e
    rw [if_pos rfl, if_pos hi, List.getElem?_append_left (by simp; omega), List.getElem?_map, List.getElem?_take_of_lt (by omega), List.getElem?_eq_getElem hi, List.getD_eq_getElem?_getD, List.getElem?_eq_getElem hi]; rfl
  · rw [if_neg e]
    by_cases h : q < i
    · rw [List.getElem?_append_left (by simp; omega), List.getElem?_append_left (by simp; omega), List.getElem?_map, List.getElem?_map, List.getElem?_take_of_lt h, List.getElem?_take_of_lt (by omega)]
    · rw [List.getElem?_append_right (by simp; omega), List.getElem?_append_right (by simp; omega), List.getElem?_drop, List.getElem?_drop]
      congr 1
      simp only [List.length_map, List.length_take]
      omega
def toldP (f : Int → Int) (p : Int × Int) : Int × Int := (toldN f p.1, toldN f p.2)
def toldW (f : Int → Int) (l : List (Int × Int)) (i : Nat) : List (Int × Int) := (l.take i).map (toldP f) ++ l.drop i
theorem toldW_len (f : Int → Int) (l : List (Int × Int)) (i : Nat) : (toldW f l i).length = l.length := by unfold toldW; simp; omega
theorem toldW_0 (f : Int → Int) (l : List (Int × Int)) : toldW f l 0 = l := by unfold toldW; simp
theorem toldW_all (f : Int → Int) (l : List (Int × Int)) : toldW f l l.length = l.map (toldP f) := by unfold toldW; simp
theorem toldW_at (f : Int → Int) (l : List (Int × Int)) (i : Nat) (hi : i < l.length) : wAt (toldW f l i) i = wAt l i := by
  unfold toldW wAt
  rw [List.getD_eq_getElem?_getD, List.getElem?_append_right (by simp; omega), List.getElem?_drop, List.getD_eq_getElem?_getD]
  simp
  congr 2; omega
theorem toldW_set (f : Int → Int) (l : List (Int × Int)) (i : Nat) (hi : i < l.length) : (toldW f l i).set i (toldP f (wAt l i)) = toldW f l (i + 1) := by
  apply List.ext_getElem?
  intro q
  rw [List.getElem?_set, toldW_len]
  unfold toldW wAt
  by_cases e : i = q
  · subst e
    rw [if_pos rfl, if_pos hi, List.getElem?_append_left (by simp; omega), List.getElem?_map, List.getElem?_take_of_lt (by omega), List.getElem?_eq_getElem hi, List.getD_eq_getElem?_getD, List.getElem?_eq_getElem hi]; rfl
  · rw [if_neg e]
    by_cases h : q < i
    · rw [List.getElem?_append_left (by simp; omega), List.getElem?_append_left (by simp; omega), List.getElem?_map, List.getElem?_map, List.getElem?_take_of_lt h, List.getElem?_take_of_lt (by omega)]
    · rw [List.getElem?_append_right (by simp; omega), List.getElem?_append_right (by simp; omega), List.getElem?_drop, List.getElem?_drop]
      congr 1
      simp only [List.length_map, List.length_take]
      omega
def toldR (f : Int → Int) (R : PR) : PR := { R with proc := toldN f R.proc, frame := toldN f R.frame, ready := R.ready.map (toldN f), wait := R.wait.map (toldP f), due := R.due.map (toldN f) }
/-- the registers of a world that lies in its box -/
structure OkR (N : Nat) (R : PR) : Prop where
  proc : okN N R.proc
  frame : okN N R.frame
  ready : ∀ i, i < R.ready.length → okN N (R.ready.getD i 0)
  wait : ∀ i, i < R.wait.length → okN N (wAt R.wait i).1 ∧ okN N (wAt R.wait i).2
  due : ∀ i, i < R.due.length → okN N (R.due.getD i 0)
  len : R.ready.length ≤ 100000 ∧ R.wait.length ≤ 100000 ∧ R.due.length ≤ 100000
set_option maxRecDepth 100000 in
set_option maxHeartbeats 4000000 in
theorem told_ {w : World} {base g7 g4 gA N : Nat} {at_ : List Int} {R : PR} {re wa du sn v0 v1 v2 v8 v9 v10 v11 v12 : Value}
    (b7 : Blk w g7 31 #[v0, v1, v2, .int .i64 R.proc, .int .i64 R.frame, re, wa, du, v8, v9, v10, v11, v12]) (b4 : Blk w g4 22 #[.slice (some ⟨gA, 0, none⟩) N N]) (bA : Blk w gA 3 (at_.map (Value.int .i64)).toArray)
    (rn : RegsNew w base R re wa du sn) (s : TS gA N at_ re du) (ok : OkR N R) :
    Calls Try.prog 34 #[.pointer (some ⟨g7, 3, none⟩), .func (.func 35) #[] #[.pointer (some ⟨g4, 0, none⟩)]] w fun e w' => e = .returned (.tuple #[]) ∧
      Blk w' g7 31 #[v0, v1, v2, .int .i64 (toldN (fA at_) R.proc), .int .i64 (toldN (fA at_) R.frame), re, wa, du, v8, v9, v10, v11, v12] ∧ RegsNew w' base (toldR (fA at_) R) re wa du sn ∧ Keep (PTold g7 re wa du) w w' := by
  obtain ⟨A1, c1, e1⟩ := rn.re.form
  obtain ⟨A2, c2, e2⟩ := rn.wa.form
  obtain ⟨A3, c3, e3⟩ := rn.du.form
  subst e1 e2 e3
  have hk : ∀ (args : Array Value) (W : World), (callFunc 78 args).run Try.prog W = .ok (.enter 78 args) W := fun _ _ => by kernel_rfl
  have HS := Lib.hid s
  have OK := Lib.hid ok
  obtain ⟨n1, n2, n3⟩ := ok.len
  clear s ok
  go_enter Try.func34, Try.ntmps34
  go_upto_region 2 with (fail)
  refine wp_name (fun w1 hW => ?_)
  have x1 : Ext w w1 := by rw [hW]; exact (Ext.refl _).alloc _
  have T0 : Hid (TD w base g7 w.heap.size g4 gA N at_ _ R _ _ _ sn w1) := Lib.hid ⟨b7.ext x1, by rw [hW]; exact Blk.new _ _ _, b4.ext x1, bA.ext x1, rn.ext x1, Keep.of_ext x1 _⟩
  clear hW x1 b7 b4 bA rn
  generalize hg3 : w.heap.size = g3 at *
  go_wp2_with fail
  refine (told1 (o := 3) T0.out.b7 (by rfl) T0.out.b3 (fA at_) (T0.out.calls HS.out OK.out.proc)).mono ?_
  rintro e w2 ⟨rfl, b2, k2⟩
  have T1 : Hid (TD w base g7 g3 g4 gA N at_ #[v0, v1, v2, .int .i64 (toldN (fA at_) R.proc), .int .i64 R.frame, .slice A1 R.ready.length c1, .slice A2 R.wait.length c2, .slice A3 R.due.length c3, v8, v9, v10, v11, v12] R (.slice A1 R.ready.length c1) (.slice A2 R.wait.length c2) (.slice A3 R.due.length c3) sn w2) := Lib.hid (T0.out.cell b2 k2)
  clear b2 k2 T0
  go_wp2_with fail
  refine (told1 (o := 4) T1.out.b7 (by rfl) T1.out.b3 (fA at_) (T1.out.calls HS.out OK.out.frame)).mono ?_
  rintro e w3 ⟨rfl, b3, k3⟩
  have T2 : Hid (TD w base g7 g3 g4 gA N at_ #[v0, v1, v2, .int .i64 (toldN (fA at_) R.proc), .int .i64 (toldN (fA at_) R.frame), .slice A1 R.ready.length c1, .slice A2 R.wait.length c2, .slice A3 R.due.length c3, v8, v9, v10, v11, v12] { R with ready := toldL (fA at_) R.ready 0 } (.slice A1 R.ready.length c1) (.slice A2 R.wait.length c2) (.slice A3 R.due.length c3) sn w3) := Lib.hid (by rw [toldL_0]; exact T1.out.cell b3 k3)
  clear b3 k3 T1
  have cR := T2.out.b7.cell 5
  have lR := T2.out.b7.lt
  simp only [List.getElem?_toArray, List.getElem?_cons_zero, List.getElem?_cons_succ] at cR
  go_wp2_with fail
  clear cR lR
  go_loopw [24] (fun iv wr => ∃ i : Nat, i ≤ R.ready.length ∧ iv = .int .i64 i ∧ TD w base g7 g3 g4 gA N at_ #[v0, v1, v2, .int .i64 (toldN (fA at_) R.proc), .int .i64 (toldN (fA at_) R.frame), .slice A1 R.ready.length c1, .slice A2 R.wait.length c2, .slice A3 R.due.length c3, v8, v9, v10, v11, v12] { R with ready := toldL (fA at_) R.ready i } (.slice A1 R.ready.length c1) (.slice A2 R.wait.length c2) (.slice A3 R.due.length c3) sn wr) (fun iv _ => R.ready.length - (intOf iv).toNat)
  case atStart => exact ⟨0, Nat.zero_le _, rfl, T2.out⟩
  case round =>
    clear T2
    obtain ⟨i, hi, rfl, T⟩ := hrel
    have TH := Lib.hid T
    have cR := T.b7.cell 5
    have lR := T.b7.lt
    simp only [List.getElem?_toArray, List.getElem?_cons_zero, List.getElem?_cons_succ] at cR
    by_cases hlt : i < R.ready.length
    · have iI : (i : Int) < (R.ready.length : Int) := by omega
      obtain ⟨g, cap, cur, e, h1, h2, hb, hc, put⟩ := T.ready HS.out (i := i) (by show i < (toldL (fA at_) R.ready i).length; rw [toldL_len]; exact hlt)
      replace hc : cur[i]? = some (.int .i64 ((toldL (fA at_) R.ready i).getD i 0)) := hc
      rw [toldL_at _ _ _ hlt] at hc
      replace e : Value.slice A1 R.ready.length c1 = .slice (some ⟨g, 0, none⟩) (toldL (fA at_) R.ready i).length cap := e
      rw [toldL_len] at e
      injection e with e1 e2 e3
      subst e1
      have HB := Lib.hid hb
      have HC := Lib.hid hc
      have HP := Lib.hid put
      clear T hb hc put e2 e3
      go_wp2_with fail
      refine (told1 (o := i) HB.out HC.out TH.out.b3 (fA at_) (TH.out.calls HS.out (OK.out.ready i hlt))).mono ?_
      rintro e w4 ⟨rfl, b4', k4⟩
      have T4 : Hid (TD w base g7 g3 g4 gA N at_ #[v0, v1, v2, .int .i64 (toldN (fA at_) R.proc), .int .i64 (toldN (fA at_) R.frame), .slice (some ⟨g, 0, none⟩) R.ready.length c1, .slice A2 R.wait.length c2, .slice A3 R.due.length c3, v8, v9, v10, v11, v12] { R with ready := toldL (fA at_) R.ready (i + 1) } (.slice (some ⟨g, 0, none⟩) R.ready.length c1) (.slice A2 R.wait.length c2) (.slice A3 R.due.length c3) sn w4) := Lib.hid (by
        have q := HP.out w4 _ b4' k4
        rw [← toldL_set _ _ _ hlt]
        exact q)
      clear b4' k4 HB HC HP cR lR
      go_wp2_with fail
      go_roundw
      case rel => exact ⟨i + 1, by omega, by go_num, T4.out⟩
      case measure => simp [intOf]; omega
    · obtain rfl : i = R.ready.length := by omega
      have T5 : Hid (TD w base g7 g3 g4 gA N at_ #[v0, v1, v2, .int .i64 (toldN (fA at_) R.proc), .int .i64 (toldN (fA at_) R.frame), .slice A1 R.ready.length c1, .slice A2 R.wait.length c2, .slice A3 R.due.length c3, v8, v9, v10, v11, v12] { R with ready := R.ready.map (toldN (fA at_)), wait := toldW (fA at_) R.wait 0 } (.slice A1 R.ready.length c1) (.slice A2 R.wait.length c2) (.slice A3 R.due.length c3) sn wr) := Lib.hid (by rw [toldW_0, ← toldL_all]; exact TH.out)
      have cW' := T.b7.cell 6
      simp only [List.getElem?_toArray, List.getElem?_cons_zero, List.getElem?_cons_succ] at cW'
      clear T TH hi hlt cR
      go_wp2_with fail
      clear cW' lR
      go_loopw [41] (fun iv wr => ∃ i : Nat, i ≤ R.wait.length ∧ iv = .int .i64 i ∧ TD w base g7 g3 g4 gA N at_ #[v0, v1, v2, .int .i64 (toldN (fA at_) R.proc), .int .i64 (toldN (fA at_) R.frame), .slice A1 R.ready.length c1, .slice A2 R.wait.length c2, .slice A3 R.due.length c3, v8, v9, v10, v11, v12] { R with ready := R.ready.map (toldN (fA at_)), wait := toldW (fA at_) R.wait i } (.slice A1 R.ready.length c1) (.slice A2 R.wait.length c2) (.slice A3 R.due.length c3) sn wr) (fun iv _ => R.wait.length - (intOf iv).toNat)
      case atStart => exact ⟨0, Nat.zero_le _, rfl, T5.out⟩
      case round =>
        clear T5
        obtain ⟨i, hi, rfl, T⟩ := hrel
        have TH := Lib.hid T
        have cR := T.b7.cell 6
        have lR := T.b7.lt
        simp only [List.getElem?_toArray, List.getElem?_cons_zero, List.getElem?_cons_succ] at cR
        by_cases hlt : i < R.wait.length
        · have iI : (i : Int) < (R.wait.length : Int) := by omega
          obtain ⟨g, cap, cur, e, h1, h2, hb, hc, put⟩ := T.wait (i := i) (j := 0) (by show i < (toldW (fA at_) R.wait i).length; rw [toldW_len]; exact hlt) (by omega)
          replace hc : cur[i * 2 + 0]? = some (cW (wAt (toldW (fA at_) R.wait i) i) 0) := hc
          rw [toldW_at _ _ _ hlt] at hc
          replace e : Value.slice A2 R.wait.length c2 = .slice (some ⟨g, 0, none⟩) (toldW (fA at_) R.wait i).length cap := e
          rw [toldW_len] at e
          injection e with e1 e2 e3
          subst e1
          have HB := Lib.hid hb
          have HC : Hid (cur[i * 2]? = some (.int .i64 (wAt R.wait i).1)) := Lib.hid hc
          have HP := Lib.hid put
          clear T hb hc put e2 e3 h1 h2
          go_wp2_with fail
          refine (told1 (o := i * 2) HB.out HC.out TH.out.b3 (fA at_) (TH.out.calls HS.out (OK.out.wait i hlt).1)).mono ?_
          rintro e w4 ⟨rfl, b4', k4⟩
          have T4 := HP.out w4 (toldN (fA at_) (wAt R.wait i).1, (wAt R.wait i).2) (fun q hq hq0 => by
            show cW _ q = cW (wAt (toldW (fA at_) R.wait i) i) q
            rw [toldW_at _ _ _ hlt]
            obtain rfl : q = 1 := by omega
            rfl) b4' k4
          obtain ⟨g', cap', cur', e', h1', h2', hb', hc', put'⟩ := T4.wait (i := i) (j := 1) (by show i < ((toldW (fA at_) R.wait i).set i _).length; rw [List.length_set, toldW_len]; exact hlt) (by omega)
          have eg : g' = g := by
            injection e' with e1 e2 e3; injection e1 with e1; injection e1 with e1; exact e1.symm
          subst eg
          have hw2 : wAt ((toldW (fA at_) R.wait i).set i (toldN (fA at_) (wAt R.wait i).1, (wAt R.wait i).2)) i = (toldN (fA at_) (wAt R.wait i).1, (wAt R.wait i).2) := by
            rw [wAt_set _ _ _ _ (by rw [toldW_len]; exact hlt), if_pos rfl]
          replace hc' : cur'[i * 2 + 1]? = some (cW (wAt ((toldW (fA at_) R.wait i).set i (toldN (fA at_) (wAt R.wait i).1, (wAt R.wait i).2)) i) 1) := hc'
          rw [hw2] at hc'
          have HB' := Lib.hid hb'
          have HC' : Hid (cur'[i * 2 + 1]? = some (.int .i64 (wAt R.wait i).2)) := Lib.hid hc'
          have HP' := Lib.hid put'
          have TH4 := Lib.hid T4
          have HW2 := Lib.hid hw2
          have cR4 := T4.b7.cell 6
          have lR4 := T4.b7.lt
          simp only [List.getElem?_toArray, List.getElem?_cons_zero, List.getElem?_cons_succ] at cR4
          clear T4 b4' k4 hb' hc' put' hw2 e' h1' h2' HB HC HP
          go_wp2_with fail
          refine (told1 (o := i * 2 + 1) HB'.out HC'.out TH4.out.b3 (fA at_) (TH4.out.calls HS.out (OK.out.wait i hlt).2)).mono ?_
          rintro e w5 ⟨rfl, b5', k5⟩
          have T6 : Hid (TD w base g7 g3 g4 gA N at_ #[v0, v1, v2, .int .i64 (toldN (fA at_) R.proc), .int .i64 (toldN (fA at_) R.frame), .slice A1 R.ready.length c1, .slice (some ⟨g', 0, none⟩) R.wait.length c2, .slice A3 R.due.length c3, v8, v9, v10, v11, v12] { R with ready := R.ready.map (toldN (fA at_)), wait := toldW (fA at_) R.wait (i + 1) } (.slice A1 R.ready.length c1) (.slice (some ⟨g', 0, none⟩) R.wait.length c2) (.slice A3 R.due.length c3) sn w5) := Lib.hid (by
            have q := HP'.out w5 (toldP (fA at_) (wAt R.wait i)) (fun q hq hq0 => by
              show cW _ q = cW (wAt ((toldW (fA at_) R.wait i).set i _) i) q
              rw [HW2.out]
              obtain rfl : q = 0 := by omega
              rfl) b5' k5
            rw [← toldW_set _ _ _ hlt]
            have e2 : ((toldW (fA at_) R.wait i).set i (toldN (fA at_) (wAt R.wait i).1, (wAt R.wait i).2)).set i (toldP (fA at_) (wAt R.wait i)) = (toldW (fA at_) R.wait i).set i (toldP (fA at_) (wAt R.wait i)) := List.set_set ..
            rw [← e2]
            exact q)
          clear b5' k5 HB' HC' HP' cR lR cR4 lR4 TH4 HW2
          go_wp2_with fail
          go_roundw
          case rel => exact ⟨i + 1, by omega, by go_num, T6.out⟩
          case measure => simp [intOf]; omega
        · obtain rfl : i = R.wait.length := by omega
          have T7 : Hid (TD w base g7 g3 g4 gA N at_ #[v0, v1, v2, .int .i64 (toldN (fA at_) R.proc), .int .i64 (toldN (fA at_) R.frame), .slice A1 R.ready.length c1, .slice A2 R.wait.length c2, .slice A3 R.due.length c3, v8, v9, v10, v11, v12] { R with ready := R.ready.map (toldN (fA at_)), wait := R.wait.map (toldP (fA at_)), due := toldL (fA at_) R.due 0 } (.slice A1 R.ready.length c1) (.slice A2 R.wait.length c2) (.slice A3 R.due.length c3) sn wr) := Lib.hid (by rw [toldL_0, ← toldW_all]; exact TH.out)
          have cD' := T.b7.cell 7
          simp only [List.getElem?_toArray, List.getElem?_cons_zero, List.getElem?_cons_succ] at cD'
          clear T TH hi hlt cR
          go_wp2_with fail
          clear cD' lR
          go_loopw [68] (fun iv wr => ∃ i : Nat, i ≤ R.due.length ∧ iv = .int .i64 i ∧ TD w base g7 g3 g4 gA N at_ #[v0, v1, v2, .int .i64 (toldN (fA at_) R.proc), .int .i64 (toldN (fA at_) R.frame), .slice A1 R.ready.length c1, .slice A2 R.wait.length c2, .slice A3 R.due.length c3, v8, v9, v10, v11, v12] { R with ready := R.ready.map (toldN (fA at_)), wait := R.wait.map (toldP (fA at_)), due := toldL (fA at_) R.due i } (.slice A1 R.ready.length c1) (.slice A2 R.wait.length c2) (.slice A3 R.due.length c3) sn wr) (fun iv _ => R.due.length - (intOf iv).toNat)
          case atStart => exact ⟨0, Nat.zero_le _, rfl, T7.out⟩
          case round =>
            clear T7
            obtain ⟨i, hi, rfl, T⟩ := hrel
            have TH := Lib.hid T
            have cR := T.b7.cell 7
            have lR := T.b7.lt
            simp only [List.getElem?_toArray, List.getElem?_cons_zero, List.getElem?_cons_succ] at cR
            by_cases hlt : i < R.due.length
            · have iI : (i : Int) < (R.due.length : Int) := by omega
              obtain ⟨g, cap, cur, e, h1, h2, hb, hc, put⟩ := T.due HS.out (i := i) (by show i < (toldL (fA at_) R.due i).length; rw [toldL_len]; exact hlt)
              replace hc : cur[i]? = some (.int .i64 ((toldL (fA at_) R.due i).getD i 0)) := hc
              rw [toldL_at _ _ _ hlt] at hc
              replace e : Value.slice A3 R.due.length c3 = .slice (some ⟨g, 0, none⟩) (toldL (fA at_) R.due i).length cap := e
              rw [toldL_len] at e
              injection e with e1 e2 e3
              subst e1
              have HB := Lib.hid hb
              have HC := Lib.hid hc
              have HP := Lib.hid put
              clear T hb hc put e2 e3 h1 h2
              go_wp2_with fail
              refine (told1 (o := i) HB.out HC.out TH.out.b3 (fA at_) (TH.out.calls HS.out (OK.out.due i hlt))).mono ?_
              rintro e w4 ⟨rfl, b4', k4⟩
              have T4 : Hid (TD w base g7 g3 g4 gA N at_ #[v0, v1, v2, .int .i64 (toldN (fA at_) R.proc), .int .i64 (toldN (fA at_) R.frame), .slice A1 R.ready.length c1, .slice A2 R.wait.length c2, .slice (some ⟨g, 0, none⟩) R.due.length c3, v8, v9, v10, v11, v12] { R with ready := R.ready.map (toldN (fA at_)), wait := R.wait.map (toldP (fA at_)), due := toldL (fA at_) R.due (i + 1) } (.slice A1 R.ready.length c1) (.slice A2 R.wait.length c2) (.slice (some ⟨g, 0, none⟩) R.due.length c3) sn w4) := Lib.hid (by
                have q := HP.out w4 _ b4' k4
                rw [← toldL_set _ _ _ hlt]
                exact q)
              clear b4' k4 HB HC HP cR lR
              go_wp2_with fail
              go_roundw
              case rel => exact ⟨i + 1, by omega, by go_num, T4.out⟩
              case measure => simp [intOf]; omega
            · obtain rfl : i = R.due.length := by omega
              clear T cR lR
              go_wp2_with fail
              go_end0
              have q := TH.out
              rw [toldL_all] at q
              exact ⟨rfl, q.b7, ⟨q.rn.ap, q.rn.re, q.rn.wa, q.rn.du, q.rn.sn⟩, q.k⟩
end Go.Proofs.Ytadhkmplhgcgkaa.World
