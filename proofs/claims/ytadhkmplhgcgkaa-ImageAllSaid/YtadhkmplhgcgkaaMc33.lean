/-
  RefEq, Fixed, RefSame, as one text (a claim has at most 60 files).
-/
import Derived.Test.YtadhkmplhgcgkaaMc23
import Derived.Test.YtadhkmplhgcgkaaMc10
import Derived.Test.YtadhkmplhgcgkaaMc01
namespace Go.Proofs.Ytadhkmplhgcgkaa.World
open Go.RowKit Go.Proofs.Ytadhkmplhgcgkaa.Plain
set_option linter.unusedVariables false
attribute [local go_sem ↓] Go.wp_at_zero Go.wp_at_succ
def eqBools (l l' : List Bool) : Bool := decide (l.length = l'.length) && allTo (fun i => l.getD i false == l'.getD i false) l.length
section
variable {w : World}
set_option maxRecDepth 100000 in
set_option maxHeartbeats 2000000 in
theorem rints {v v' : Value} {l l' : List Int} (h : IntsAt w v l) (h' : IntsAt w v' l') : Calls Try.prog 111 #[v, v'] w fun e w' => e = .returned (.bool (eqInts l l')) ∧ Ext w w' := by
  obtain ⟨A, cp, e1, l1, l2⟩ := Row.form h
  replace e1 : v = .slice A l.length cp := e1
  subst e1
  obtain ⟨A', cp', e1', l1', l2'⟩ := Row.form h'
  replace e1' : v' = .slice A' l'.length cp' := e1'
  subst e1'
  have HI : Hid (∀ j, j < l.length → ∃ b off, A = some ⟨b, off, none⟩ ∧ b < w.heap.size ∧ w.cell? ⟨b, off + j, none⟩ = some (.int .i64 (l.getD j 0))) := Lib.hid (fun j hj => by
    obtain ⟨b, off, e, hb, hc⟩ := Row.at_ h j hj
    have c := hc 0 (by omega)
    exact ⟨b, off, e, hb, by simpa using c⟩)
  have HJ : Hid (∀ j, j < l'.length → ∃ b off, A' = some ⟨b, off, none⟩ ∧ b < w.heap.size ∧ w.cell? ⟨b, off + j, none⟩ = some (.int .i64 (l'.getD j 0))) := Lib.hid (fun j hj => by
    obtain ⟨b, off, e, hb, hc⟩ := Row.at_ h' j hj
    have c := hc 0 (by omega)
    exact ⟨b, off, e, hb, by simpa using c⟩)
  have E : Hid (eqInts l l' = (decide (l.length = l'.length) && allTo (fun i => l.getD i 0 == l'.getD i 0) l.length)) := rfl
  have AF := Lib.hid (allTo_false (fun i => l.getD i 0 == l'.getD i 0) l.length)
  have AS := Lib.hid (allTo_succ (fun i => l.getD i 0 == l'.getD i 0))
  clear h h'
  by_cases hn : l.length = l'.length
  · rw [decide_eq_true hn, Bool.true_and] at E
    rw [← hn] at HJ ⊢
    generalize hm : l.length = m at *
    clear hn hm
    go_enter Try.func111, Try.ntmps111
    go_wp2_with fail
    go_loopw [5] (fun iv wr => ∃ i : Nat, i ≤ m ∧ iv = .int .i64 i ∧ allTo (fun i => l.getD i 0 == l'.getD i 0) i = true ∧ Ext w wr) (fun iv _ => m - (intOf iv).toNat)
    case atStart => exact ⟨0, Nat.zero_le _, rfl, rfl, Ext.refl _⟩
    case round =>
      obtain ⟨i, hi, rfl, ha, xr⟩ := hrel
      have HA := Lib.hid ha
      have X := Lib.hid xr
      clear ha
      by_cases hlt : i < m
      · obtain ⟨b, off, rfl, hb, c0⟩ := HI.out i hlt
        obtain ⟨b', off', rfl, hb', c0'⟩ := HJ.out i hlt
        replace c0 := (xr.below.cell (p := ⟨b, off + i, none⟩) hb).trans c0
        replace c0' := (xr.below.cell (p := ⟨b', off' + i, none⟩) hb').trans c0'
        have hbr := Nat.lt_of_lt_of_le hb xr.below.size
        have hbr' := Nat.lt_of_lt_of_le hb' xr.below.size
        have iN : (i : Int) < (m : Int) := by omega
        have BAD : Hid ((l.getD i 0 == l'.getD i 0) = false → eqInts l l' = false) := Lib.hid (fun hf => by rw [E.out]; exact AF.out i hlt hf)
        have YES : Hid ((l.getD i 0 == l'.getD i 0) = true → allTo (fun i => l.getD i 0 == l'.getD i 0) (i + 1) = true) := Lib.hid (fun hf => AS.out i HA.out hf)
        generalize l.getD i 0 = x at *
        generalize l'.getD i 0 = y at *
        clear xr hb hb'
        cases hq : (x == y) with
        | true =>
          have A1 := Lib.hid (YES.out hq)
          have hm : (x != y) = false := by unfold bne; rw [hq]; rfl
          clear YES BAD
          go_wp2_with fail
          refine wp_region_ext (by kernel_rfl) (by kernel_rfl) ?_
          repeat (go_big_quiet_step (fail))
          refine wpQuiet_nil ?_
          rintro W3 ⟨xx, rfl⟩
          go_wp2_with fail
          go_roundw
          case rel => exact ⟨i + 1, by omega, by go_num, A1.out, X.out.trans (is_ext _ _)⟩
          case measure => simp [intOf]; omega
        | false =>
          have A1 := Lib.hid (BAD.out hq)
          have hm : (x != y) = true := by unfold bne; rw [hq]; rfl
          clear YES BAD
          go_wp2_with fail
          refine wp_region_ext (by kernel_rfl) (by kernel_rfl) ?_
          repeat (go_big_quiet_step (fail))
          refine wpQuiet_nil ?_
          rintro W3 ⟨xx, rfl⟩
          go_wp2_with fail
          go_ret
          exact ⟨ret_bool A1.out.symm, X.out.trans (is_ext _ _)⟩
      · obtain rfl : i = m := by omega
        go_wp2_with fail
        go_ret
        exact ⟨ret_bool (by rw [E.out, HA.out]), X.out⟩
  · rw [decide_eq_false hn, Bool.false_and] at E
    have hm : ((l.length : Int) != (l'.length : Int)) = true := by simp; omega
    generalize l.length = n at *
    generalize l'.length = n' at *
    clear hn
    go_enter Try.func111, Try.ntmps111
    go_wp2_with fail
    go_ret
    exact ⟨ret_bool E.out.symm, Ext.refl _⟩
set_option maxRecDepth 100000 in
set_option maxHeartbeats 2000000 in
theorem sameInts {v v' : Value} {l l' : List Int} (h : IntsAt w v l) (h' : IntsAt w v' l') : Calls Try.prog 60 #[v, v'] w fun e w' => e = .returned (.bool (eqInts l l')) ∧ Ext w w' := by
  obtain ⟨A, cp, e1, l1, l2⟩ := Row.form h
  replace e1 : v = .slice A l.length cp := e1
  subst e1
  obtain ⟨A', cp', e1', l1', l2'⟩ := Row.form h'
  replace e1' : v' = .slice A' l'.length cp' := e1'
  subst e1'
  have HI : Hid (∀ j, j < l.length → ∃ b off, A = some ⟨b, off, none⟩ ∧ b < w.heap.size ∧ w.cell? ⟨b, off + j, none⟩ = some (.int .i64 (l.getD j 0))) := Lib.hid (fun j hj => by
    obtain ⟨b, off, e, hb, hc⟩ := Row.at_ h j hj
    have c := hc 0 (by omega)
    exact ⟨b, off, e, hb, by simpa using c⟩)
  have HJ : Hid (∀ j, j < l'.length → ∃ b off, A' = some ⟨b, off, none⟩ ∧ b < w.heap.size ∧ w.cell? ⟨b, off + j, none⟩ = some (.int .i64 (l'.getD j 0))) := Lib.hid (fun j hj => by
    obtain ⟨b, off, e, hb, hc⟩ := Row.at_ h' j hj
    have c := hc 0 (by omega)
    exact ⟨b, off, e, hb, by simpa using c⟩)
  have E : Hid (eqInts l l' = (decide (l.length = l'.length) && allTo (fun i => l.getD i 0 == l'.getD i 0) l.length)) := rfl
  have AF := Lib.hid (allTo_false (fun i => l.getD i 0 == l'.getD i 0) l.length)
  have AS := Lib.hid (allTo_succ (fun i => l.getD i 0 == l'.getD i 0))
  clear h h'
  by_cases hn : l.length = l'.length
  · rw [decide_eq_true hn, Bool.true_and] at E
    rw [← hn] at HJ ⊢
    generalize hm : l.length = m at *
    clear hn hm
    go_enter Try.func60, Try.ntmps60
    go_wp2_with fail
    go_loopw [5] (fun iv wr => ∃ i : Nat, i ≤ m ∧ iv = .int .i64 i ∧ allTo (fun i => l.getD i 0 == l'.getD i 0) i = true ∧ Ext w wr) (fun iv _ => m - (intOf iv).toNat)
    case atStart => exact ⟨0, Nat.zero_le _, rfl, rfl, Ext.refl _⟩
    case round =>
      obtain ⟨i, hi, rfl, ha, xr⟩ := hrel
      have HA := Lib.hid ha
      have X := Lib.hid xr
      clear ha
      by_cases hlt : i < m
      · obtain ⟨b, off, rfl, hb, c0⟩ := HI.out i hlt
        obtain ⟨b', off', rfl, hb', c0'⟩ := HJ.out i hlt
        replace c0 := (xr.below.cell (p := ⟨b, off + i, none⟩) hb).trans c0
        replace c0' := (xr.below.cell (p := ⟨b', off' + i, none⟩) hb').trans c0'
        have hbr := Nat.lt_of_lt_of_le hb xr.below.size
        have hbr' := Nat.lt_of_lt_of_le hb' xr.below.size
        have iN : (i : Int) < (m : Int) := by omega
        have BAD : Hid ((l.getD i 0 == l'.getD i 0) = false → eqInts l l' = false) := Lib.hid (fun hf => by rw [E.out]; exact AF.out i hlt hf)
        have YES : Hid ((l.getD i 0 == l'.getD i 0) = true → allTo (fun i => l.getD i 0 == l'.getD i 0) (i + 1) = true) := Lib.hid (fun hf => AS.out i HA.out hf)
        generalize l.getD i 0 = x at *
        generalize l'.getD i 0 = y at *
        clear xr hb hb'
        cases hq : (x == y) with
        | true =>
          have A1 := Lib.hid (YES.out hq)
          have hm : (x != y) = false := by unfold bne; rw [hq]; rfl
          clear YES BAD
          go_wp2_with fail
          refine wp_region_ext (by kernel_rfl) (by kernel_rfl) ?_
          repeat (go_big_quiet_step (fail))
          refine wpQuiet_nil ?_
          rintro W3 ⟨xx, rfl⟩
          go_wp2_with fail
          go_roundw
          case rel => exact ⟨i + 1, by omega, by go_num, A1.out, X.out.trans (is_ext _ _)⟩
          case measure => simp [intOf]; omega
        | false =>
          have A1 := Lib.hid (BAD.out hq)
          have hm : (x != y) = true := by unfold bne; rw [hq]; rfl
          clear YES BAD
          go_wp2_with fail
          refine wp_region_ext (by kernel_rfl) (by kernel_rfl) ?_
          repeat (go_big_quiet_step (fail))
          refine wpQuiet_nil ?_
          rintro W3 ⟨xx, rfl⟩
          go_wp2_with fail
          go_ret
          exact ⟨ret_bool A1.out.symm, X.out.trans (is_ext _ _)⟩
      · obtain rfl : i = m := by omega
        go_wp2_with fail
        go_ret
        exact ⟨ret_bool (by rw [E.out, HA.out]), X.out⟩
  · rw [decide_eq_false hn, Bool.false_and] at E
    have hm : ((l.length : Int) != (l'.length : Int)) = true := by simp; omega
    generalize l.length = n at *
    generalize l'.length = n' at *
    clear hn
    go_enter Try.func60, Try.ntmps60
    go_wp2_with fail
    go_ret
    exact ⟨ret_bool E.out.symm, Ext.refl _⟩
set_option maxRecDepth 100000 in
set_option maxHeartbeats 2000000 in
theorem sameBools {v v' : Value} {l l' : List Bool} (h : BoolsAt w v l) (h' : BoolsAt w v' l') : Calls Try.prog 62 #[v, v'] w fun e w' => e = .returned (.bool (eqBools l l')) ∧ Ext w w' := by
  obtain ⟨A, cp, e1, l1, l2⟩ := Row.form h
  replace e1 : v = .slice A l.length cp := e1
  subst e1
  obtain ⟨A', cp', e1', l1', l2'⟩ := Row.form h'
  replace e1' : v' = .slice A' l'.length cp' := e1'
  subst e1'
  have HI : Hid (∀ j, j < l.length → ∃ b off, A = some ⟨b, off, none⟩ ∧ b < w.heap.size ∧ w.cell? ⟨b, off + j, none⟩ = some (.bool (l.getD j false))) := Lib.hid (fun j hj => by
    obtain ⟨b, off, e, hb, hc⟩ := Row.at_ h j hj
    have c := hc 0 (by omega)
    exact ⟨b, off, e, hb, by simpa using c⟩)
  have HJ : Hid (∀ j, j < l'.length → ∃ b off, A' = some ⟨b, off, none⟩ ∧ b < w.heap.size ∧ w.cell? ⟨b, off + j, none⟩ = some (.bool (l'.getD j false))) := Lib.hid (fun j hj => by
    obtain ⟨b, off, e, hb, hc⟩ := Row.at_ h' j hj
    have c := hc 0 (by omega)
    exact ⟨b, off, e, hb, by simpa using c⟩)
  have E : Hid (eqBools l l' = (decide (l.length = l'.length) && allTo (fun i => l.getD i false == l'.getD i false) l.length)) := rfl
  have AF := Lib.hid (allTo_false (fun i => l.getD i false == l'.getD i false) l.length)
  have AS := Lib.hid (allTo_succ (fun i => l.getD i false == l'.getD i false))
  clear h h'
  by_cases hn : l.length = l'.length
  · rw [decide_eq_true hn, Bool.true_and] at E
    rw [← hn] at HJ ⊢
    generalize hm : l.length = m at *
    clear hn hm
    go_enter Try.func62, Try.ntmps62
    go_wp2_with fail
    go_loopw [5] (fun iv wr => ∃ i : Nat, i ≤ m ∧ iv = .int .i64 i ∧ allTo (fun i => l.getD i false == l'.getD i false) i = true ∧ Ext w wr) (fun iv _ => m - (intOf iv).toNat)
    case atStart => exact ⟨0, Nat.zero_le _, rfl, rfl, Ext.refl _⟩
    case round =>
      obtain ⟨i, hi, rfl, ha, xr⟩ := hrel
      have HA := Lib.hid ha
      have X := Lib.hid xr
      clear ha
      by_cases hlt : i < m
      · obtain ⟨b, off, rfl, hb, c0⟩ := HI.out i hlt
        obtain ⟨b', off', rfl, hb', c0'⟩ := HJ.out i hlt
        replace c0 := (xr.below.cell (p := ⟨b, off + i, none⟩) hb).trans c0
        replace c0' := (xr.below.cell (p := ⟨b', off' + i, none⟩) hb').trans c0'
        have hbr := Nat.lt_of_lt_of_le hb xr.below.size
        have hbr' := Nat.lt_of_lt_of_le hb' xr.below.size
        have iN : (i : Int) < (m : Int) := by omega
        have BAD : Hid ((l.getD i false == l'.getD i false) = false → eqBools l l' = false) := Lib.hid (fun hf => by rw [E.out]; exact AF.out i hlt hf)
        have YES : Hid ((l.getD i false == l'.getD i false) = true → allTo (fun i => l.getD i false == l'.getD i false) (i + 1) = true) := Lib.hid (fun hf => AS.out i HA.out hf)
        generalize l.getD i false = x at *
        generalize l'.getD i false = y at *
        clear xr hb hb'
        cases hq : (x == y) with
        | true =>
          have A1 := Lib.hid (YES.out hq)
          have hm : (x != y) = false := by unfold bne; rw [hq]; rfl
          clear YES BAD
          go_wp2_with fail
          refine wp_region_ext (by kernel_rfl) (by kernel_rfl) ?_
          repeat (go_big_quiet_step (fail))
          refine wpQuiet_nil ?_
          rintro W3 ⟨xx, rfl⟩
          go_wp2_with fail
          go_roundw
          case rel => exact ⟨i + 1, by omega, by go_num, A1.out, X.out.trans (is_ext _ _)⟩
          case measure => simp [intOf]; omega
        | false =>
          have A1 := Lib.hid (BAD.out hq)
          have hm : (x != y) = true := by unfold bne; rw [hq]; rfl
          clear YES BAD
          go_wp2_with fail
          refine wp_region_ext (by kernel_rfl) (by kernel_rfl) ?_
          repeat (go_big_quiet_step (fail))
          refine wpQuiet_nil ?_
          rintro W3 ⟨xx, rfl⟩
          go_wp2_with fail
          go_ret
          exact ⟨ret_bool A1.out.symm, X.out.trans (is_ext _ _)⟩
      · obtain rfl : i = m := by omega
        go_wp2_with fail
        go_ret
        exact ⟨ret_bool (by rw [E.out, HA.out]), X.out⟩
  · rw [decide_eq_false hn, Bool.false_and] at E
    have hm : ((l.length : Int) != (l'.length : Int)) = true := by simp; omega
    generalize l.length = n at *
    generalize l'.length = n' at *
    clear hn
    go_enter Try.func62, Try.ntmps62
    go_wp2_with fail
    go_ret
    exact ⟨ret_bool E.out.symm, Ext.refl _⟩
end
end Go.Proofs.Ytadhkmplhgcgkaa.World
namespace Go.Proofs.Ytadhkmplhgcgkaa.Plain
open Go.RowKit
theorem wpList_of_quiet {P : Program} {ops : Array Oper} {C : World → Prop} {Q : Act → Prop} {Q' : Exit → Act → World → Prop} (hQ : ∀ a w, C w → Q a → Q' .normal a w) :
    ∀ (l : List Oper) (a : Act) (w : World), C w → wpQuiet P ops C Q l a → wpList P ops Q' l a w
  | [], a, w, hw, h => hQ a w hw h
  | o :: l, a, w, hw, h => by
    unfold wpQuiet at h
    unfold wpList
    by_cases hx : Region.wanted o (yielded ops a.tmps) = true
    · rw [if_pos hx] at h ⊢
      exact .inl (Oper.wp_of_quiet hw (fun a' w' hw' h' => wpList_of_quiet hQ l a' w' hw' h') h)
    · rw [if_neg hx] at h ⊢
      exact wpList_of_quiet hQ l _ w hw h
theorem wp_region_fixed {P : Program} {id : Nat} {Q : Exit → Act → World → Prop} {a : Act} {w : World} {l : List Oper}
    (h : wpQuiet P l.toArray (fun w' => ∃ x, w' = ext w x) (fun a' => ∀ w', (∃ x, w' = ext w x) → Q .normal a' w') l a) : (Code.region id l.toArray false).wp P Q a w :=
  wp_region_lit (wpList_of_quiet (Q := fun a' => ∀ w', (∃ x, w' = ext w x) → Q .normal a' w') (fun _ w' hw' h => h w' hw') l a w (Ext.refl w) h)
end Go.Proofs.Ytadhkmplhgcgkaa.Plain
namespace Go.Proofs.Ytadhkmplhgcgkaa.World
open Go.RowKit Go.Proofs.Ytadhkmplhgcgkaa.Plain
set_option linter.unusedVariables false
attribute [local go_sem ↓] Go.wp_at_zero Go.wp_at_succ
section
variable {w : World}
set_option maxRecDepth 100000 in
set_option maxHeartbeats 4000000 in
theorem rsameThing {t t' : PT} {vF vF' : Value} (h : ValsAt w vF t.F) (h' : ValsAt w vF' t'.F) : Calls Try.prog 88 #[.agg (aggT t vF), .agg (aggT t' vF')] w fun e w' => e = .returned (.bool (eqT t t')) ∧ Ext w w' := by
  obtain ⟨A, cp, e1, l1, l2⟩ := Row.form h
  obtain ⟨A', cp', e1', l1', l2'⟩ := Row.form h'
  replace e1 : vF = .slice A t.F.length cp := e1
  replace e1' : vF' = .slice A' t'.F.length cp' := e1'
  subst e1 e1'
  have HI : Hid (∀ W, Ext w W → ∀ j, j < t.F.length → ∃ b off, A = some ⟨b, off, none⟩ ∧ b < W.heap.size ∧ W.cell? ⟨b, off + j * 2, none⟩ = some (.bool (vAt t.F j).obj) ∧ W.cell? ⟨b, off + j * 2 + 1, none⟩ = some (.int .i64 (vAt t.F j).n)) := Lib.hid (fun W y j hj => by
    obtain ⟨b, off, e, hb, hc⟩ := Row.at_ (h.ext y) j hj
    exact ⟨b, off, e, hb, hc 0 (by omega), hc 1 (by omega)⟩)
  have HJ : Hid (∀ W, Ext w W → ∀ j, j < t'.F.length → ∃ b off, A' = some ⟨b, off, none⟩ ∧ b < W.heap.size ∧ W.cell? ⟨b, off + j * 2, none⟩ = some (.bool (vAt t'.F j).obj) ∧ W.cell? ⟨b, off + j * 2 + 1, none⟩ = some (.int .i64 (vAt t'.F j).n)) := Lib.hid (fun W y j hj => by
    obtain ⟨b, off, e, hb, hc⟩ := Row.at_ (h'.ext y) j hj
    exact ⟨b, off, e, hb, hc 0 (by omega), hc 1 (by omega)⟩)
  clear h h'
  have E : Hid (eqT t t' = (t.cls == t'.cls && (t.fmt == t'.fmt && (t.hash == t'.hash && (t.fin == t'.fin && (t.B == t'.B && (decide (t.F.length = t'.F.length) && allTo (fun i => eqPV (vAt t.F i) (vAt t'.F i)) t.F.length))))))) := rfl
  have AF := Lib.hid (allTo_false (fun i => eqPV (vAt t.F i) (vAt t'.F i)) t.F.length)
  have AS := Lib.hid (allTo_succ (fun i => eqPV (vAt t.F i) (vAt t'.F i)))
  unfold aggT
  generalize eqT t t' = R at *
  obtain ⟨c1, c2, c3, c4, F, B⟩ := t
  obtain ⟨d1, d2, d3, d4, G, D⟩ := t'
  simp only at E HI HJ AF AS l1 l1'
  obtain ⟨p1, h1⟩ : ∃ p, (c1 != d1) = p := ⟨_, rfl⟩
  obtain ⟨p2, h2⟩ : ∃ p, (c2 != d2) = p := ⟨_, rfl⟩
  obtain ⟨p3, h3⟩ : ∃ p, (c3 != d3) = p := ⟨_, rfl⟩
  obtain ⟨p4, h4⟩ : ∃ p, (c4 != d4) = p := ⟨_, rfl⟩
  obtain ⟨p5, h5⟩ : ∃ p, (B.toList != D.toList) = p := ⟨_, rfl⟩
  obtain ⟨p6, h6⟩ : ∃ p, ((F.length : Int) != (G.length : Int)) = p := ⟨_, rfl⟩
  have g1 : (c1 == d1) = !p1 := by rw [← h1]; unfold bne; simp
  have g2 : (c2 == d2) = !p2 := by rw [← h2]; unfold bne; simp
  have g3 : (c3 == d3) = !p3 := by rw [← h3]; unfold bne; simp
  have g4 : (c4 == d4) = !p4 := by rw [← h4]; unfold bne; simp
  have g5 : (B == D) = !p5 := by rw [← h5, beq_toListBytes]; unfold bne; simp
  have g6 : decide (F.length = G.length) = !p6 := by
    rw [← h6]
    by_cases e : F.length = G.length
    · rw [decide_eq_true e, e]; simp
    · rw [decide_eq_false e]
      first | (simp; done) | (simp; omega)
  rw [g1, g2, g3, g4, g5, g6] at E
  have h4' : (!(c4 == d4)) = p4 := by rw [← h4]; rfl
  have h5' : (!(B.toList == D.toList)) = p5 := by rw [← h5]; rfl
  have G6 := Lib.hid g6
  clear g1 g2 g3 g4 g5 g6
  go_enter Try.func88, Try.ntmps88
  go_upto_region 1 with (fail)
  refine wp_name (fun W1 hW => ?_)
  have b2 := Blk.new' hW
  have b1 : Blk W1 w.heap.size _ _ := (Blk.new w _ _).alloc' hW
  have x1 := ((Ext.refl w).alloc _).alloc' hW
  simp only [World.size_alloc] at b2
  clear hW
  obtain ⟨r1, r2, r3⟩ := b1.rules
  obtain ⟨s1, s2, s3⟩ := b2.rules
  have B1 := Lib.hid b1
  have B2 := Lib.hid b2
  have X1 := Lib.hid x1
  clear b1 b2 x1
  refine wp_region_fixed ?_
  repeat (go_big_quiet_step (fail))
  cases p1 with
  | true =>
    rw [Bool.not_true, Bool.false_and] at E
    repeat (go_big_quiet_step (fail))
    refine wpQuiet_nil ?_
    rintro W3 ⟨xx, rfl⟩
    go_wp2_with fail
    go_ret
    exact ⟨ret_bool E.out.symm, X1.out.trans (is_ext _ _)⟩
  | false =>
    rw [Bool.not_false, Bool.true_and] at E
    repeat (go_big_quiet_step (fail))
    cases p2 with
    | true =>
      rw [Bool.not_true, Bool.false_and] at E
      repeat (go_big_quiet_step (fail))
      refine wpQuiet_nil ?_
      rintro W3 ⟨xx, rfl⟩
      go_wp2_with fail
      go_ret
      exact ⟨ret_bool E.out.symm, X1.out.trans (is_ext _ _)⟩
    | false =>
      rw [Bool.not_false, Bool.true_and] at E
      repeat (go_big_quiet_step (fail))
      cases p3 with
      | true =>
        rw [Bool.not_true, Bool.false_and] at E
        repeat (go_big_quiet_step (fail))
        refine wpQuiet_nil ?_
        rintro W3 ⟨xx, rfl⟩
        go_wp2_with fail
        go_ret
        exact ⟨ret_bool E.out.symm, X1.out.trans (is_ext _ _)⟩
      | false =>
        rw [Bool.not_false, Bool.true_and] at E
        repeat (go_big_quiet_step (fail))
        cases p4 with
        | true =>
          rw [Bool.not_true, Bool.false_and] at E
          repeat (go_big_quiet_step (fail))
          refine wpQuiet_nil ?_
          rintro W3 ⟨xx, rfl⟩
          go_wp2_with fail
          go_ret
          exact ⟨ret_bool E.out.symm, X1.out.trans (is_ext _ _)⟩
        | false =>
          rw [Bool.not_false, Bool.true_and] at E
          repeat (go_big_quiet_step (fail))
          cases p5 with
          | true =>
            rw [Bool.not_true, Bool.false_and] at E
            repeat (go_big_quiet_step (fail))
            refine wpQuiet_nil ?_
            rintro W3 ⟨xx, rfl⟩
            go_wp2_with fail
            go_ret
            exact ⟨ret_bool E.out.symm, X1.out.trans (is_ext _ _)⟩
          | false =>
            rw [Bool.not_false, Bool.true_and] at E
            repeat (go_big_quiet_step (fail))
            cases p6 with
            | true =>
              rw [Bool.not_true, Bool.false_and] at E
              repeat (go_big_quiet_step (fail))
              refine wpQuiet_nil ?_
              rintro W3 ⟨xx, rfl⟩
              go_wp2_with fail
              go_ret
              exact ⟨ret_bool E.out.symm, X1.out.trans (is_ext _ _)⟩
            | false =>
              rw [Bool.not_false, Bool.true_and] at E
              repeat (go_big_quiet_step (fail))
              refine wpQuiet_nil ?_
              rintro W3 ⟨xx, rfl⟩
              have hFG : F.length = G.length := by have := G6.out; simpa using this
              rw [← hFG] at HJ
              generalize hm : F.length = m at *
              have HM := Lib.hid hFG
              clear hFG hm h1 h2 h3 h4 h4' h5 h5' h6
              go_wp2_with fail
              go_loopw [5] (fun iv wr => ∃ i : Nat, i ≤ m ∧ iv = .int .i64 i ∧ allTo (fun i => eqPV (vAt F i) (vAt G i)) i = true ∧ Ext (Plain.ext W1 xx) wr) (fun iv _ => m - (intOf iv).toNat)
              case atStart => exact ⟨0, Nat.zero_le _, rfl, rfl, Ext.refl _⟩
              case round =>
                obtain ⟨i, hi, rfl, ha, xr⟩ := hrel
                have HA := Lib.hid ha
                have X := Lib.hid xr
                have XA := Lib.hid ((X1.out.trans (is_ext W1 _)).trans xr)
                have B3 := Lib.hid (B1.out.ext ((is_ext W1 _).trans xr))
                have B4 := Lib.hid (B2.out.ext ((is_ext W1 _).trans xr))
                clear r1 r2 r3 s1 s2 s3 ha xr
                obtain ⟨r1, r2, r3⟩ := B3.out.rules
                obtain ⟨s1, s2, s3⟩ := B4.out.rules
                by_cases hlt : i < m
                · obtain ⟨b, off, rfl, hb, k0, k1⟩ := HI.out _ XA.out i hlt
                  obtain ⟨b', off', rfl, hb', k0', k1'⟩ := HJ.out _ XA.out i hlt
                  have iN : (i : Int) < (m : Int) := by omega
                  have iN' : (i : Int) < (G.length : Int) := by have := HM.out; omega
                  have BAD : Hid (eqPV (vAt F i) (vAt G i) = false → R = false) := Lib.hid (fun hf => by rw [E.out]; exact AF.out i hlt hf)
                  have YES : Hid (eqPV (vAt F i) (vAt G i) = true → allTo (fun i => eqPV (vAt F i) (vAt G i)) (i + 1) = true) := Lib.hid (fun hf => AS.out i HA.out hf)
                  have EV : Hid (eqPV (vAt F i) (vAt G i) = ((vAt F i).obj == (vAt G i).obj && (vAt F i).n == (vAt G i).n)) := rfl
                  generalize eqPV (vAt F i) (vAt G i) = ev at *
                  generalize vAt F i = u at *
                  generalize vAt G i = u' at *
                  obtain ⟨uo, un⟩ := u
                  obtain ⟨vo, vn⟩ := u'
                  simp only at k0 k1 k0' k1' EV
                  obtain ⟨p1, h1⟩ : ∃ p, (!(uo == vo)) = p := ⟨_, rfl⟩
                  obtain ⟨p2, h2⟩ : ∃ p, (un != vn) = p := ⟨_, rfl⟩
                  have g1 : (uo == vo) = !p1 := by rw [← h1]; simp
                  have g2 : (un == vn) = !p2 := by rw [← h2]; unfold bne; simp
                  rw [g1, g2] at EV
                  clear g1 g2
                  go_wp2_with fail
                  refine wp_region_ext (by kernel_rfl) (by kernel_rfl) ?_
                  repeat (go_big_quiet_step (fail))
                  cases p1 with
                  | true =>
                    have A1 := Lib.hid (BAD.out (by rw [EV.out]; rfl))
                    clear BAD YES
                    repeat (go_big_quiet_step (fail))
                    refine wpQuiet_nil ?_
                    rintro W3 ⟨x3, rfl⟩
                    go_wp2_with fail
                    go_ret
                    exact ⟨ret_bool A1.out.symm, XA.out.trans (is_ext _ _)⟩
                  | false =>
                    repeat (go_big_quiet_step (fail))
                    cases p2 with
                    | true =>
                      have A1 := Lib.hid (BAD.out (by rw [EV.out]; rfl))
                      clear BAD YES
                      repeat (go_big_quiet_step (fail))
                      refine wpQuiet_nil ?_
                      rintro W3 ⟨x3, rfl⟩
                      go_wp2_with fail
                      go_ret
                      exact ⟨ret_bool A1.out.symm, XA.out.trans (is_ext _ _)⟩
                    | false =>
                      have A1 := Lib.hid (YES.out (by rw [EV.out]; rfl))
                      clear BAD YES
                      repeat (go_big_quiet_step (fail))
                      refine wpQuiet_nil ?_
                      rintro W3 ⟨x3, rfl⟩
                      go_wp2_with fail
                      go_roundw
                      case rel => exact ⟨i + 1, by omega, by go_num, A1.out, X.out.trans (is_ext _ _)⟩
                      case measure => simp [intOf]; omega
                · obtain rfl : i = m := by omega
                  go_wp2_with fail
                  go_ret
                  exact ⟨ret_bool (by rw [E.out, HA.out]), XA.out⟩
end
end Go.Proofs.Ytadhkmplhgcgkaa.World
