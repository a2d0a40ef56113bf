/-
  RefEq, RefSame, RefSameRegs, RefEqual, AppNil, RefCopyRegs, RefCopy, RefWorld, as one text (a claim has at most 60 files).
-/
import Derived.Test.YtadhkmplhgcgkaaReach16
import Derived.Test.YtadhkmplhgcgkaaBase4
import Derived.Test.YtadhkmplhgcgkaaFixed
import Derived.Deep.DeepCutAuto
import Derived.Test.YtadhkmplhgcgkaaRefLive
import Derived.Test.YtadhkmplhgcgkaaImage9
import Derived.Deep.AppendLies
import Derived.Deep.Upon
namespace Go.Proofs.Ytadhkmplhgcgkaa.World
open Go.RowKit Go.Proofs.Ytadhkmplhgcgkaa.Plain
set_option linter.unusedVariables false
attribute [local go_sem ↓] Go.wp_at_zero Go.wp_at_succ
def eqBools (l l' : List Bool) : Bool := decide (l.length = l'.length) && allTo (fun i => l.getD i false == l'.getD i false) l.length
section
variable {w : World}
set_option maxRecDepth 100000 in
set_option maxHeartbeats 2000000 in
theorem rints {v v' : Value} {l l' : List Int} (h : IntsAt w v l) (h' : IntsAt w v' l') : Calls Try.prog 111 #[v, v'] w fun e w' => e = .returned (.bool (eqInts l l')) ∧ Ext w w' := by
  obtain ⟨A, cp, e1, l1, l2⟩ := Row.form h
  replace e1 : v = .slice A l.length cp := e1
  subst e1
  obtain ⟨A', cp', e1', l1', l2'⟩ := Row.form h'
  replace e1' : v' = .slice A' l'.length cp' := e1'
  subst e1'
  have HI : Hid (∀ j, j < l.length → ∃ b off, A = some ⟨b, off, none⟩ ∧ b < w.heap.size ∧ w.cell? ⟨b, off + j, none⟩ = some (.int .i64 (l.getD j 0))) := Lib.hid (fun j hj => by
    obtain ⟨b, off, e, hb, hc⟩ := Row.at_ h j hj
    have c := hc 0 (by omega)
    exact ⟨b, off, e, hb, by simpa using c⟩)
  have HJ : Hid (∀ j, j < l'.length → ∃ b off, A' = some ⟨b, off, none⟩ ∧ b < w.heap.size ∧ w.cell? ⟨b, off + j, none⟩ = some (.int .i64 (l'.getD j 0))) := Lib.hid (fun j hj => by
    obtain ⟨b, off, e, hb, hc⟩ := Row.at_ h' j hj
    have c := hc 0 (by omega)
    exact ⟨b, off, e, hb, by simpa using c⟩)
  have E : Hid (eqInts l l' = (decide (l.length = l'.length) && allTo (fun i => l.getD i 0 == l'.getD i 0) l.length)) := rfl
  have AF := Lib.hid (allTo_false (fun i => l.getD i 0 == l'.getD i 0) l.length)
  have AS := Lib.hid (allTo_succ (fun i => l.getD i 0 == l'.getD i 0))
  clear h h'
  by_cases hn : l.length = l'.length
  · rw [decide_eq_true hn, Bool.true_and] at E
    rw [← hn] at HJ ⊢
    generalize hm : l.length = m at *
    clear hn hm
    go_enter Try.func111, Try.ntmps111
    go_wp2_with fail
    go_loopw [5] (fun iv wr => ∃ i : Nat, i ≤ m ∧ iv = .int .i64 i ∧ allTo (fun i => l.getD i 0 == l'.getD i 0) i = true ∧ Ext w wr) (fun iv _ => m - (intOf iv).toNat)
    case atStart => exact ⟨0, Nat.zero_le _, rfl, rfl, Ext.refl _⟩
    case round =>
      obtain ⟨i, hi, rfl, ha, xr⟩ := hrel
      have HA := Lib.hid ha
      have X := Lib.hid xr
      clear ha
      by_cases hlt : i < m
      · obtain ⟨b, off, rfl, hb, c0⟩ := HI.out i hlt
        obtain ⟨b', off', rfl, hb', c0'⟩ := HJ.out i hlt
        replace c0 := (xr.below.cell (p := ⟨b, off + i, none⟩) hb).trans c0
        replace c0' := (xr.below.cell (p := ⟨b', off' + i, none⟩) hb').trans c0'
        have hbr := Nat.lt_of_lt_of_le hb xr.below.size
        have hbr' := Nat.lt_of_lt_of_le hb' xr.below.size
        have iN : (i : Int) < (m : Int) := by omega
        have BAD : Hid ((l.getD i 0 == l'.getD i 0) = false → eqInts l l' = false) := Lib.hid (fun hf => by rw [E.out]; exact AF.out i hlt hf)
        have YES : Hid ((l.getD i 0 == l'.getD i 0) = true → allTo (fun i => l.getD i 0 == l'.getD i 0) (i + 1) = true) := Lib.hid (fun hf => AS.out i HA.out hf)
        generalize l.getD i 0 = x at *
        generalize l'.getD i 0 = y at *
        clear xr hb hb'
        cases hq : (x == y) with
        | true =>
          have A1 := Lib.hid (YES.out hq)
          have hm : (x != y) = false := by unfold bne; rw [hq]; rfl
          clear YES BAD
          go_wp2_with fail
          refine wp_region_ext (by kernel_rfl) (by kernel_rfl) ?_
          repeat (go_big_quiet_step (fail))
          refine wpQuiet_nil ?_
          rintro W3 ⟨xx, rfl⟩
          go_wp2_with fail
          go_roundw
          case rel => exact ⟨i + 1, by omega, by go_num, A1.out, X.out.trans (is_ext _ _)⟩
          case measure => simp [intOf]; omega
        | false =>
          have A1 := Lib.hid (BAD.out hq)
          have hm : (x != y) = true := by unfold bne; rw [hq]; rfl
          clear YES BAD
          go_wp2_with fail
          refine wp_region_ext (by kernel_rfl) (by kernel_rfl) ?_
          repeat (go_big_quiet_step (fail))
          refine wpQuiet_nil ?_
          rintro W3 ⟨xx, rfl⟩
          go_wp2_with fail
          go_ret
          exact ⟨ret_bool A1.out.symm, X.out.trans (is_ext _ _)⟩
      · obtain rfl : i = m := by omega
        go_wp2_with fail
        go_ret
        exact ⟨ret_bool (by rw [E.out, HA.out]), X.out⟩
  · rw [decide_eq_false hn, Bool.false_and] at E
    have hm : ((l.length : Int) != (l'.length : Int)) = true := by simp; omega
    generalize l.length = n at *
    generalize l'.length = n' at *
    clear hn
    go_enter Try.func111, Try.ntmps111
    go_wp2_with fail
    go_ret
    exact ⟨ret_bool E.out.symm, Ext.refl _⟩
set_option maxRecDepth 100000 in
set_option maxHeartbeats 2000000 in
theorem sameInts {v v' : Value} {l l' : List Int} (h : IntsAt w v l) (h' : IntsAt w v' l') : Calls Try.prog 60 #[v, v'] w fun e w' => e = .returned (.bool (eqInts l l')) ∧ Ext w w' := by
  obtain ⟨A, cp, e1, l1, l2⟩ := Row.form h
  replace e1 : v = .slice A l.length cp := e1
  subst e1
  obtain ⟨A', cp', e1', l1', l2'⟩ := Row.form h'
  replace e1' : v' = .slice A' l'.length cp' := e1'
  subst e1'
  have HI : Hid (∀ j, j < l.length → ∃ b off, A = some ⟨b, off, none⟩ ∧ b < w.heap.size ∧ w.cell? ⟨b, off + j, none⟩ = some (.int .i64 (l.getD j 0))) := Lib.hid (fun j hj => by
    obtain ⟨b, off, e, hb, hc⟩ := Row.at_ h j hj
    have c := hc 0 (by omega)
    exact ⟨b, off, e, hb, by simpa using c⟩)
  have HJ : Hid (∀ j, j < l'.length → ∃ b off, A' = some ⟨b, off, none⟩ ∧ b < w.heap.size ∧ w.cell? ⟨b, off + j, none⟩ = some (.int .i64 (l'.getD j 0))) := Lib.hid (fun j hj => by
    obtain ⟨b, off, e, hb, hc⟩ := Row.at_ h' j hj
    have c := hc 0 (by omega)
    exact ⟨b, off, e, hb, by simpa using c⟩)
  have E : Hid (eqInts l l' = (decide (l.length = l'.length) && allTo (fun i => l.getD i 0 == l'.getD i 0) l.length)) := rfl
  have AF := Lib.hid (allTo_false (fun i => l.getD i 0 == l'.getD i 0) l.length)
  have AS := Lib.hid (allTo_succ (fun i => l.getD i 0 == l'.getD i 0))
  clear h h'
  by_cases hn : l.length = l'.length
  · rw [decide_eq_true hn, Bool.true_and] at E
    rw [← hn] at HJ ⊢
    generalize hm : l.length = m at *
    clear hn hm
    go_enter Try.func60, Try.ntmps60
    go_wp2_with fail
    go_loopw [5] (fun iv wr => ∃ i : Nat, i ≤ m ∧ iv = .int .i64 i ∧ allTo (fun i => l.getD i 0 == l'.getD i 0) i = true ∧ Ext w wr) (fun iv _ => m - (intOf iv).toNat)
    case atStart => exact ⟨0, Nat.zero_le _, rfl, rfl, Ext.refl _⟩
    case round =>
      obtain ⟨i, hi, rfl, ha, xr⟩ := hrel
      have HA := Lib.hid ha
      have X := Lib.hid xr
      clear ha
      by_cases hlt : i < m
      · obtain ⟨b, off, rfl, hb, c0⟩ := HI.out i hlt
        obtain ⟨b', off', rfl, hb', c0'⟩ := HJ.out i hlt
        replace c0 := (xr.below.cell (p := ⟨b, off + i, none⟩) hb).trans c0
        replace c0' := (xr.below.cell (p := ⟨b', off' + i, none⟩) hb').trans c0'
        have hbr := Nat.lt_of_lt_of_le hb xr.below.size
        have hbr' := Nat.lt_of_lt_of_le hb' xr.below.size
        have iN : (i : Int) < (m : Int) := by omega
        have BAD : Hid ((l.getD i 0 == l'.getD i 0) = false → eqInts l l' = false) := Lib.hid (fun hf => by rw [E.out]; exact AF.out i hlt hf)
        have YES : Hid ((l.getD i 0 == l'.getD i 0) = true → allTo (fun i => l.getD i 0 == l'.getD i 0) (i + 1) = true) := Lib.hid (fun hf => AS.out i HA.out hf)
        generalize l.getD i 0 = x at *
        generalize l'.getD i 0 = y at *
        clear xr hb hb'
        cases hq : (x == y) with
        | true =>
          have A1 := Lib.hid (YES.out hq)
          have hm : (x != y) = false := by unfold bne; rw [hq]; rfl
          clear YES BAD
          go_wp2_with fail
          refine wp_region_ext (by kernel_rfl) (by kernel_rfl) ?_
          repeat (go_big_quiet_step (fail))
          refine wpQuiet_nil ?_
          rintro W3 ⟨xx, rfl⟩
          go_wp2_with fail
          go_roundw
          case rel => exact ⟨i + 1, by omega, by go_num, A1.out, X.out.trans (is_ext _ _)⟩
          case measure => simp [intOf]; omega
        | false =>
          have A1 := Lib.hid (BAD.out hq)
          have hm : (x != y) = true := by unfold bne; rw [hq]; rfl
          clear YES BAD
          go_wp2_with fail
          refine wp_region_ext (by kernel_rfl) (by kernel_rfl) ?_
          repeat (go_big_quiet_step (fail))
          refine wpQuiet_nil ?_
          rintro W3 ⟨xx, rfl⟩
          go_wp2_with fail
          go_ret
          exact ⟨ret_bool A1.out.symm, X.out.trans (is_ext _ _)⟩
      · obtain rfl : i = m := by omega
        go_wp2_with fail
        go_ret
        exact ⟨ret_bool (by rw [E.out, HA.out]), X.out⟩
  · rw [decide_eq_false hn, Bool.false_and] at E
    have hm : ((l.length : Int) != (l'.length : Int)) = true := by simp; omega
    generalize l.length = n at *
    generalize l'.length = n' at *
    clear hn
    go_enter Try.func60, Try.ntmps60
    go_wp2_with fail
    go_ret
    exact ⟨ret_bool E.out.symm, Ext.refl _⟩
set_option maxRecDepth 100000 in
set_option maxHeartbeats 2000000 in
theorem sameBools {v v' : Value} {l l' : List Bool} (h : BoolsAt w v l) (h' : BoolsAt w v' l') : Calls Try.prog 62 #[v, v'] w fun e w' => e = .returned (.bool (eqBools l l')) ∧ Ext w w' := by
  obtain ⟨A, cp, e1, l1, l2⟩ := Row.form h
  replace e1 : v = .slice A l.length cp := e1
  subst e1
  obtain ⟨A', cp', e1', l1', l2'⟩ := Row.form h'
  replace e1' : v' = .slice A' l'.length cp' := e1'
  subst e1'
  have HI : Hid (∀ j, j < l.length → ∃ b off, A = some ⟨b, off, none⟩ ∧ b < w.heap.size ∧ w.cell? ⟨b, off + j, none⟩ = some (.bool (l.getD j false))) := Lib.hid (fun j hj => by
    obtain ⟨b, off, e, hb, hc⟩ := Row.at_ h j hj
    have c := hc 0 (by omega)
    exact ⟨b, off, e, hb, by simpa using c⟩)
  have HJ : Hid (∀ j, j < l'.length → ∃ b off, A' = some ⟨b, off, none⟩ ∧ b < w.heap.size ∧ w.cell? ⟨b, off + j, none⟩ = some (.bool (l'.getD j false))) := Lib.hid (fun j hj => by
    obtain ⟨b, off, e, hb, hc⟩ := Row.at_ h' j hj
    have c := hc 0 (by omega)
    exact ⟨b, off, e, hb, by simpa using c⟩)
  have E : Hid (eqBools l l' = (decide (l.length = l'.length) && allTo (fun i => l.getD i false == l'.getD i false) l.length)) := rfl
  have AF := Lib.hid (allTo_false (fun i => l.getD i false == l'.getD i false) l.length)
  have AS := Lib.hid (allTo_succ (fun i => l.getD i false == l'.getD i false))
  clear h h'
  by_cases hn : l.length = l'.length
  · rw [decide_eq_true hn, Bool.true_and] at E
    rw [← hn] at HJ ⊢
    generalize hm : l.length = m at *
    clear hn hm
    go_enter Try.func62, Try.ntmps62
    go_wp2_with fail
    go_loopw [5] (fun iv wr => ∃ i : Nat, i ≤ m ∧ iv = .int .i64 i ∧ allTo (fun i => l.getD i false == l'.getD i false) i = true ∧ Ext w wr) (fun iv _ => m - (intOf iv).toNat)
    case atStart => exact ⟨0, Nat.zero_le _, rfl, rfl, Ext.refl _⟩
    case round =>
      obtain ⟨i, hi, rfl, ha, xr⟩ := hrel
      have HA := Lib.hid ha
      have X := Lib.hid xr
      clear ha
      by_cases hlt : i < m
      · obtain ⟨b, off, rfl, hb, c0⟩ := HI.out i hlt
        obtain ⟨b', off', rfl, hb', c0'⟩ := HJ.out i hlt
        replace c0 := (xr.below.cell (p := ⟨b, off + i, none⟩) hb).trans c0
        replace c0' := (xr.below.cell (p := ⟨b', off' + i, none⟩) hb').trans c0'
        have hbr := Nat.lt_of_lt_of_le hb xr.below.size
        have hbr' := Nat.lt_of_lt_of_le hb' xr.below.size
        have iN : (i : Int) < (m : Int) := by omega
        have BAD : Hid ((l.getD i false == l'.getD i false) = false → eqBools l l' = false) := Lib.hid (fun hf => by rw [E.out]; exact AF.out i hlt hf)
        have YES : Hid ((l.getD i false == l'.getD i false) = true → allTo (fun i => l.getD i false == l'.getD i false) (i + 1) = true) := Lib.hid (fun hf => AS.out i HA.out hf)
        generalize l.getD i false = x at *
        generalize l'.getD i false = y at *
        clear xr hb hb'
        cases hq : (x == y) with
        | true =>
          have A1 := Lib.hid (YES.out hq)
          have hm : (x != y) = false := by unfold bne; rw [hq]; rfl
          clear YES BAD
          go_wp2_with fail
          refine wp_region_ext (by kernel_rfl) (by kernel_rfl) ?_
          repeat (go_big_quiet_step (fail))
          refine wpQuiet_nil ?_
          rintro W3 ⟨xx, rfl⟩
          go_wp2_with fail
          go_roundw
          case rel => exact ⟨i + 1, by omega, by go_num, A1.out, X.out.trans (is_ext _ _)⟩
          case measure => simp [intOf]; omega
        | false =>
          have A1 := Lib.hid (BAD.out hq)
          have hm : (x != y) = true := by unfold bne; rw [hq]; rfl
          clear YES BAD
          go_wp2_with fail
          refine wp_region_ext (by kernel_rfl) (by kernel_rfl) ?_
          repeat (go_big_quiet_step (fail))
          refine wpQuiet_nil ?_
          rintro W3 ⟨xx, rfl⟩
          go_wp2_with fail
          go_ret
          exact ⟨ret_bool A1.out.symm, X.out.trans (is_ext _ _)⟩
      · obtain rfl : i = m := by omega
        go_wp2_with fail
        go_ret
        exact ⟨ret_bool (by rw [E.out, HA.out]), X.out⟩
  · rw [decide_eq_false hn, Bool.false_and] at E
    have hm : ((l.length : Int) != (l'.length : Int)) = true := by simp; omega
    generalize l.length = n at *
    generalize l'.length = n' at *
    clear hn
    go_enter Try.func62, Try.ntmps62
    go_wp2_with fail
    go_ret
    exact ⟨ret_bool E.out.symm, Ext.refl _⟩
end
end Go.Proofs.Ytadhkmplhgcgkaa.World
namespace Go.Proofs.Ytadhkmplhgcgkaa.World
open Go.RowKit Go.Proofs.Ytadhkmplhgcgkaa.Plain
set_option linter.unusedVariables false
attribute [local go_sem ↓] Go.wp_at_zero Go.wp_at_succ
section
variable {w : World}
set_option maxRecDepth 100000 in
set_option maxHeartbeats 4000000 in
theorem rsameThing {t t' : PT} {vF vF' : Value} (h : ValsAt w vF t.F) (h' : ValsAt w vF' t'.F) : Calls Try.prog 88 #[.agg (aggT t vF), .agg (aggT t' vF')] w fun e w' => e = .returned (.bool (eqT t t')) ∧ Ext w w' := by
  obtain ⟨A, cp, e1, l1, l2⟩ := Row.form h
  obtain ⟨A', cp', e1', l1', l2'⟩ := Row.form h'
  replace e1 : vF = .slice A t.F.length cp := e1
  replace e1' : vF' = .slice A' t'.F.length cp' := e1'
  subst e1 e1'
  have HI : Hid (∀ W, Ext w W → ∀ j, j < t.F.length → ∃ b off, A = some ⟨b, off, none⟩ ∧ b < W.heap.size ∧ W.cell? ⟨b, off + j * 2, none⟩ = some (.bool (vAt t.F j).obj) ∧ W.cell? ⟨b, off + j * 2 + 1, none⟩ = some (.int .i64 (vAt t.F j).n)) := Lib.hid (fun W y j hj => by
    obtain ⟨b, off, e, hb, hc⟩ := Row.at_ (h.ext y) j hj
    exact ⟨b, off, e, hb, hc 0 (by omega), hc 1 (by omega)⟩)
  have HJ : Hid (∀ W, Ext w W → ∀ j, j < t'.F.length → ∃ b off, A' = some ⟨b, off, none⟩ ∧ b < W.heap.size ∧ W.cell? ⟨b, off + j * 2, none⟩ = some (.bool (vAt t'.F j).obj) ∧ W.cell? ⟨b, off + j * 2 + 1, none⟩ = some (.int .i64 (vAt t'.F j).n)) := Lib.hid (fun W y j hj => by
    obtain ⟨b, off, e, hb, hc⟩ := Row.at_ (h'.ext y) j hj
    exact ⟨b, off, e, hb, hc 0 (by omega), hc 1 (by omega)⟩)
  clear h h'
  have E : Hid (eqT t t' = (t.cls == t'.cls && (t.fmt == t'.fmt && (t.hash == t'.hash && (t.fin == t'.fin && (t.B == t'.B && (decide (t.F.length = t'.F.length) && allTo (fun i => eqPV (vAt t.F i) (vAt t'.F i)) t.F.length))))))) := rfl
  have AF := Lib.hid (allTo_false (fun i => eqPV (vAt t.F i) (vAt t'.F i)) t.F.length)
  have AS := Lib.hid (allTo_succ (fun i => eqPV (vAt t.F i) (vAt t'.F i)))
  unfold aggT
  generalize eqT t t' = R at *
  obtain ⟨c1, c2, c3, c4, F, B⟩ := t
  obtain ⟨d1, d2, d3, d4, G, D⟩ := t'
  simp only at E HI HJ AF AS l1 l1'
  obtain ⟨p1, h1⟩ : ∃ p, (c1 != d1) = p := ⟨_, rfl⟩
  obtain ⟨p2, h2⟩ : ∃ p, (c2 != d2) = p := ⟨_, rfl⟩
  obtain ⟨p3, h3⟩ : ∃ p, (c3 != d3) = p := ⟨_, rfl⟩
  obtain ⟨p4, h4⟩ : ∃ p, (c4 != d4) = p := ⟨_, rfl⟩
  obtain ⟨p5, h5⟩ : ∃ p, (B.toList != D.toList) = p := ⟨_, rfl⟩
  obtain ⟨p6, h6⟩ : ∃ p, ((F.length : Int) != (G.length : Int)) = p := ⟨_, rfl⟩
  have g1 : (c1 == d1) = !p1 := by rw [← h1]; unfold bne; simp
  have g2 : (c2 == d2) = !p2 := by rw [← h2]; unfold bne; simp
  have g3 : (c3 == d3) = !p3 := by rw [← h3]; unfold bne; simp
  have g4 : (c4 == d4) = !p4 := by rw [← h4]; unfold bne; simp
  have g5 : (B == D) = !p5 := by rw [← h5, beq_toListBytes]; unfold bne; simp
  have g6 : decide (F.length = G.length) = !p6 := by
    rw [← h6]
    by_cases e : F.length = G.length
    · rw [decide_eq_true e, e]; simp
    · rw [decide_eq_false e]
      first | (simp; done) | (simp; omega)
  rw [g1, g2, g3, g4, g5, g6] at E
  have h4' : (!(c4 == d4)) = p4 := by rw [← h4]; rfl
  have h5' : (!(B.toList == D.toList)) = p5 := by rw [← h5]; rfl
  have G6 := Lib.hid g6
  clear g1 g2 g3 g4 g5 g6
  go_enter Try.func88, Try.ntmps88
  go_upto_region 1 with (fail)
  refine wp_name (fun W1 hW => ?_)
  have b2 := Blk.new' hW
  have b1 : Blk W1 w.heap.size _ _ := (Blk.new w _ _).alloc' hW
  have x1 := ((Ext.refl w).alloc _).alloc' hW
  simp only [World.size_alloc] at b2
  clear hW
  obtain ⟨r1, r2, r3⟩ := b1.rules
  obtain ⟨s1, s2, s3⟩ := b2.rules
  have B1 := Lib.hid b1
  have B2 := Lib.hid b2
  have X1 := Lib.hid x1
  clear b1 b2 x1
  refine wp_region_fixed ?_
  repeat (go_big_quiet_step (fail))
  cases p1 with
  | true =>
    rw [Bool.not_true, Bool.false_and] at E
    repeat (go_big_quiet_step (fail))
    refine wpQuiet_nil ?_
    rintro W3 ⟨xx, rfl⟩
    go_wp2_with fail
    go_ret
    exact ⟨ret_bool E.out.symm, X1.out.trans (is_ext _ _)⟩
  | false =>
    rw [Bool.not_false, Bool.true_and] at E
    repeat (go_big_quiet_step (fail))
    cases p2 with
    | true =>
      rw [Bool.not_true, Bool.false_and] at E
      repeat (go_big_quiet_step (fail))
      refine wpQuiet_nil ?_
      rintro W3 ⟨xx, rfl⟩
      go_wp2_with fail
      go_ret
      exact ⟨ret_bool E.out.symm, X1.out.trans (is_ext _ _)⟩
    | false =>
      rw [Bool.not_false, Bool.true_and] at E
      repeat (go_big_quiet_step (fail))
      cases p3 with
      | true =>
        rw [Bool.not_true, Bool.false_and] at E
        repeat (go_big_quiet_step (fail))
        refine wpQuiet_nil ?_
        rintro W3 ⟨xx, rfl⟩
        go_wp2_with fail
        go_ret
        exact ⟨ret_bool E.out.symm, X1.out.trans (is_ext _ _)⟩
      | false =>
        rw [Bool.not_false, Bool.true_and] at E
        repeat (go_big_quiet_step (fail))
        cases p4 with
        | true =>
          rw [Bool.not_true, Bool.false_and] at E
          repeat (go_big_quiet_step (fail))
          refine wpQuiet_nil ?_
          rintro W3 ⟨xx, rfl⟩
          go_wp2_with fail
          go_ret
          exact ⟨ret_bool E.out.symm, X1.out.trans (is_ext _ _)⟩
        | false =>
          rw [Bool.not_false, Bool.true_and] at E
          repeat (go_big_quiet_step (fail))
          cases p5 with
          | true =>
            rw [Bool.not_true, Bool.false_and] at E
            repeat (go_big_quiet_step (fail))
            refine wpQuiet_nil ?_
            rintro W3 ⟨xx, rfl⟩
            go_wp2_with fail
            go_ret
            exact ⟨ret_bool E.out.symm, X1.out.trans (is_ext _ _)⟩
          | false =>
            rw [Bool.not_false, Bool.true_and] at E
            repeat (go_big_quiet_step (fail))
            cases p6 with
            | true =>
              rw [Bool.not_true, Bool.false_and] at E
              repeat (go_big_quiet_step (fail))
              refine wpQuiet_nil ?_
              rintro W3 ⟨xx, rfl⟩
              go_wp2_with fail
              go_ret
              exact ⟨ret_bool E.out.symm, X1.out.trans (is_ext _ _)⟩
            | false =>
              rw [Bool.not_false, Bool.true_and] at E
              repeat (go_big_quiet_step (fail))
              refine wpQuiet_nil ?_
              rintro W3 ⟨xx, rfl⟩
              have hFG : F.length = G.length := by have := G6.out; simpa using this
              rw [← hFG] at HJ
              generalize hm : F.length = m at *
              have HM := Lib.hid hFG
              clear hFG hm h1 h2 h3 h4 h4' h5 h5' h6
              go_wp2_with fail
              go_loopw [5] (fun iv wr => ∃ i : Nat, i ≤ m ∧ iv = .int .i64 i ∧ allTo (fun i => eqPV (vAt F i) (vAt G i)) i = true ∧ Ext (Plain.ext W1 xx) wr) (fun iv _ => m - (intOf iv).toNat)
              case atStart => exact ⟨0, Nat.zero_le _, rfl, rfl, Ext.refl _⟩
              case round =>
                obtain ⟨i, hi, rfl, ha, xr⟩ := hrel
                have HA := Lib.hid ha
                have X := Lib.hid xr
                have XA := Lib.hid ((X1.out.trans (is_ext W1 _)).trans xr)
                have B3 := Lib.hid (B1.out.ext ((is_ext W1 _).trans xr))
                have B4 := Lib.hid (B2.out.ext ((is_ext W1 _).trans xr))
                clear r1 r2 r3 s1 s2 s3 ha xr
                obtain ⟨r1, r2, r3⟩ := B3.out.rules
                obtain ⟨s1, s2, s3⟩ := B4.out.rules
                by_cases hlt : i < m
                · obtain ⟨b, off, rfl, hb, k0, k1⟩ := HI.out _ XA.out i hlt
                  obtain ⟨b', off', rfl, hb', k0', k1'⟩ := HJ.out _ XA.out i hlt
                  have iN : (i : Int) < (m : Int) := by omega
                  have iN' : (i : Int) < (G.length : Int) := by have := HM.out; omega
                  have BAD : Hid (eqPV (vAt F i) (vAt G i) = false → R = false) := Lib.hid (fun hf => by rw [E.out]; exact AF.out i hlt hf)
                  have YES : Hid (eqPV (vAt F i) (vAt G i) = true → allTo (fun i => eqPV (vAt F i) (vAt G i)) (i + 1) = true) := Lib.hid (fun hf => AS.out i HA.out hf)
                  have EV : Hid (eqPV (vAt F i) (vAt G i) = ((vAt F i).obj == (vAt G i).obj && (vAt F i).n == (vAt G i).n)) := rfl
                  generalize eqPV (vAt F i) (vAt G i) = ev at *
                  generalize vAt F i = u at *
                  generalize vAt G i = u' at *
                  obtain ⟨uo, un⟩ := u
                  obtain ⟨vo, vn⟩ := u'
                  simp only at k0 k1 k0' k1' EV
                  obtain ⟨p1, h1⟩ : ∃ p, (!(uo == vo)) = p := ⟨_, rfl⟩
                  obtain ⟨p2, h2⟩ : ∃ p, (un != vn) = p := ⟨_, rfl⟩
                  have g1 : (uo == vo) = !p1 := by rw [← h1]; simp
                  have g2 : (un == vn) = !p2 := by rw [← h2]; unfold bne; simp
                  rw [g1, g2] at EV
                  clear g1 g2
                  go_wp2_with fail
                  refine wp_region_ext (by kernel_rfl) (by kernel_rfl) ?_
                  repeat (go_big_quiet_step (fail))
                  cases p1 with
                  | true =>
                    have A1 := Lib.hid (BAD.out (by rw [EV.out]; rfl))
                    clear BAD YES
                    repeat (go_big_quiet_step (fail))
                    refine wpQuiet_nil ?_
                    rintro W3 ⟨x3, rfl⟩
                    go_wp2_with fail
                    go_ret
                    exact ⟨ret_bool A1.out.symm, XA.out.trans (is_ext _ _)⟩
                  | false =>
                    repeat (go_big_quiet_step (fail))
                    cases p2 with
                    | true =>
                      have A1 := Lib.hid (BAD.out (by rw [EV.out]; rfl))
                      clear BAD YES
                      repeat (go_big_quiet_step (fail))
                      refine wpQuiet_nil ?_
                      rintro W3 ⟨x3, rfl⟩
                      go_wp2_with fail
                      go_ret
                      exact ⟨ret_bool A1.out.symm, XA.out.trans (is_ext _ _)⟩
                    | false =>
                      have A1 := Lib.hid (YES.out (by rw [EV.out]; rfl))
                      clear BAD YES
                      repeat (go_big_quiet_step (fail))
                      refine wpQuiet_nil ?_
                      rintro W3 ⟨x3, rfl⟩
                      go_wp2_with fail
                      go_roundw
                      case rel => exact ⟨i + 1, by omega, by go_num, A1.out, X.out.trans (is_ext _ _)⟩
                      case measure => simp [intOf]; omega
                · obtain rfl : i = m := by omega
                  go_wp2_with fail
                  go_ret
                  exact ⟨ret_bool (by rw [E.out, HA.out]), XA.out⟩
end
end Go.Proofs.Ytadhkmplhgcgkaa.World
namespace Go.Proofs.Ytadhkmplhgcgkaa.World
open Go.RowKit Go.Proofs.Ytadhkmplhgcgkaa.Plain
set_option linter.unusedVariables false
attribute [local go_sem ↓] Go.wp_at_zero Go.wp_at_succ
def wtsB (R Q : PR) : Bool := allTo (fun i => eqP (wAt R.wait i) (wAt Q.wait i)) R.wait.length
def snsB (R Q : PR) : Bool := allTo (fun i => (sAt R.snaps i).toList == (sAt Q.snaps i).toList) R.snaps.length
def eqR (R Q : PR) : Bool := R.proc == Q.proc && (R.frame == Q.frame && (eqInts R.ready Q.ready && (eqInts R.due Q.due && (decide (R.wait.length = Q.wait.length) && (R.out.toList == Q.out.toList && (R.inp.toList == Q.inp.toList && (R.how == Q.how && (R.exit == Q.exit && (decide (R.snaps.length = Q.snaps.length) && (wtsB R Q && snsB R Q))))))))))
section
variable {w : World}
set_option maxRecDepth 100000 in
set_option maxHeartbeats 8000000 in
theorem rsameRegs {R Q : PR} {re wa du sn re' wa' du' sn' : Value} (h1 : IntsAt w re R.ready) (h2 : WaitsAt w wa R.wait) (h3 : IntsAt w du R.due) (h4 : StrsAt w sn R.snaps)
    (k1 : IntsAt w re' Q.ready) (k2 : WaitsAt w wa' Q.wait) (k3 : IntsAt w du' Q.due) (k4 : StrsAt w sn' Q.snaps) :
    Calls Try.prog 87 #[.agg (cellsR R re wa du sn), .agg (cellsR Q re' wa' du' sn')] w fun e w' => e = .returned (.bool (eqR R Q)) ∧ Ext w w' := by
  have CI := Lib.hid (fun W2 (y : Ext w W2) => rints (h1.ext y) (k1.ext y))
  have CJ := Lib.hid (fun W2 (y : Ext w W2) => rints (h3.ext y) (k3.ext y))
  obtain ⟨Are, cre, ere, lre, _⟩ := Row.form h1
  replace ere : re = .slice Are R.ready.length cre := ere
  subst ere
  obtain ⟨Awa, cwa, ewa, lwa, _⟩ := Row.form h2
  replace ewa : wa = .slice Awa R.wait.length cwa := ewa
  subst ewa
  obtain ⟨Adu, cdu, edu, ldu, _⟩ := Row.form h3
  replace edu : du = .slice Adu R.due.length cdu := edu
  subst edu
  obtain ⟨Asn, csn, esn, lsn, _⟩ := Row.form h4
  replace esn : sn = .slice Asn R.snaps.length csn := esn
  subst esn
  obtain ⟨AreQ, creQ, ereQ, lreQ, _⟩ := Row.form k1
  replace ereQ : re' = .slice AreQ Q.ready.length creQ := ereQ
  subst ereQ
  obtain ⟨AwaQ, cwaQ, ewaQ, lwaQ, _⟩ := Row.form k2
  replace ewaQ : wa' = .slice AwaQ Q.wait.length cwaQ := ewaQ
  subst ewaQ
  obtain ⟨AduQ, cduQ, eduQ, lduQ, _⟩ := Row.form k3
  replace eduQ : du' = .slice AduQ Q.due.length cduQ := eduQ
  subst eduQ
  obtain ⟨AsnQ, csnQ, esnQ, lsnQ, _⟩ := Row.form k4
  replace esnQ : sn' = .slice AsnQ Q.snaps.length csnQ := esnQ
  subst esnQ
  have HW : Hid (∀ W, Ext w W → ∀ j, j < R.wait.length → ∃ b off, Awa = some ⟨b, off, none⟩ ∧ b < W.heap.size ∧ W.cell? ⟨b, off + j * 2, none⟩ = some (.int .i64 (wAt R.wait j).1) ∧ W.cell? ⟨b, off + j * 2 + 1, none⟩ = some (.int .i64 (wAt R.wait j).2)) := Lib.hid (fun W y j hj => by
    obtain ⟨b, off, e, hb, hc⟩ := Row.at_ (h2.ext y) j hj
    exact ⟨b, off, e, hb, hc 0 (by omega), hc 1 (by omega)⟩)
  have HV : Hid (∀ W, Ext w W → ∀ j, j < Q.wait.length → ∃ b off, AwaQ = some ⟨b, off, none⟩ ∧ b < W.heap.size ∧ W.cell? ⟨b, off + j * 2, none⟩ = some (.int .i64 (wAt Q.wait j).1) ∧ W.cell? ⟨b, off + j * 2 + 1, none⟩ = some (.int .i64 (wAt Q.wait j).2)) := Lib.hid (fun W y j hj => by
    obtain ⟨b, off, e, hb, hc⟩ := Row.at_ (k2.ext y) j hj
    exact ⟨b, off, e, hb, hc 0 (by omega), hc 1 (by omega)⟩)
  have HS : Hid (∀ W, Ext w W → ∀ j, j < R.snaps.length → ∃ b off, Asn = some ⟨b, off, none⟩ ∧ b < W.heap.size ∧ W.cell? ⟨b, off + j, none⟩ = some (.string (sAt R.snaps j))) := Lib.hid (fun W y j hj => by
    obtain ⟨b, off, e, hb, hc⟩ := Row.at_ (h4.ext y) j hj
    have c := hc 0 (by omega)
    exact ⟨b, off, e, hb, by simpa using c⟩)
  have HZ : Hid (∀ W, Ext w W → ∀ j, j < Q.snaps.length → ∃ b off, AsnQ = some ⟨b, off, none⟩ ∧ b < W.heap.size ∧ W.cell? ⟨b, off + j, none⟩ = some (.string (sAt Q.snaps j))) := Lib.hid (fun W y j hj => by
    obtain ⟨b, off, e, hb, hc⟩ := Row.at_ (k4.ext y) j hj
    have c := hc 0 (by omega)
    exact ⟨b, off, e, hb, by simpa using c⟩)
  have E : Hid (eqR R Q = (R.proc == Q.proc && (R.frame == Q.frame && (eqInts R.ready Q.ready && (eqInts R.due Q.due && (decide (R.wait.length = Q.wait.length) && (R.out.toList == Q.out.toList && (R.inp.toList == Q.inp.toList && (R.how == Q.how && (R.exit == Q.exit && (decide (R.snaps.length = Q.snaps.length) && (wtsB R Q && snsB R Q)))))))))))) := rfl
  have EW : Hid (wtsB R Q = allTo (fun i => eqP (wAt R.wait i) (wAt Q.wait i)) R.wait.length) := rfl
  have ES : Hid (snsB R Q = allTo (fun i => (sAt R.snaps i).toList == (sAt Q.snaps i).toList) R.snaps.length) := rfl
  have AW := Lib.hid (allTo_false (fun i => eqP (wAt R.wait i) (wAt Q.wait i)) R.wait.length)
  have AWS := Lib.hid (allTo_succ (fun i => eqP (wAt R.wait i) (wAt Q.wait i)))
  have AN := Lib.hid (allTo_false (fun i => (sAt R.snaps i).toList == (sAt Q.snaps i).toList) R.snaps.length)
  have ANS := Lib.hid (allTo_succ (fun i => (sAt R.snaps i).toList == (sAt Q.snaps i).toList))
  unfold cellsR
  clear h1 h2 h3 h4 k1 k2 k3 k4
  generalize eqR R Q = res at *
  generalize eqInts R.ready Q.ready = q3 at *
  generalize eqInts R.due Q.due = q4 at *
  generalize wtsB R Q = bw at *
  generalize snsB R Q = bs at *
  obtain ⟨xproc, xframe, xready, xwait, xdue, xout, xinp, xhow, xexit, xsnaps⟩ := R
  obtain ⟨yproc, yframe, yready, ywait, ydue, yout, yinp, yhow, yexit, ysnaps⟩ := Q
  simp only at *
  obtain ⟨p1, h1⟩ : ∃ p, (xproc != yproc) = p := ⟨_, rfl⟩
  obtain ⟨p2, h2⟩ : ∃ p, (xframe != yframe) = p := ⟨_, rfl⟩
  obtain ⟨p3, h3⟩ : ∃ p, (!q3) = p := ⟨_, rfl⟩
  obtain ⟨p4, h4⟩ : ∃ p, (!q4) = p := ⟨_, rfl⟩
  obtain ⟨p5, h5⟩ : ∃ p, ((xwait.length : Int) != (ywait.length : Int)) = p := ⟨_, rfl⟩
  obtain ⟨p6, h6⟩ : ∃ p, (!(xout.toList == yout.toList)) = p := ⟨_, rfl⟩
  obtain ⟨p7, h7⟩ : ∃ p, (!(xinp.toList == yinp.toList)) = p := ⟨_, rfl⟩
  obtain ⟨p8, h8⟩ : ∃ p, (xhow != yhow) = p := ⟨_, rfl⟩
  obtain ⟨p9, h9⟩ : ∃ p, (xexit != yexit) = p := ⟨_, rfl⟩
  obtain ⟨p10, h10⟩ : ∃ p, ((xsnaps.length : Int) != (ysnaps.length : Int)) = p := ⟨_, rfl⟩
  have g1 : (xproc == yproc) = !p1 := by rw [← h1]; unfold bne; simp
  have g2 : (xframe == yframe) = !p2 := by rw [← h2]; unfold bne; simp
  have g3 : q3 = !p3 := by rw [← h3]; simp
  have g4 : q4 = !p4 := by rw [← h4]; simp
  have g5 : decide (xwait.length = ywait.length) = !p5 := by
    rw [← h5]
    by_cases e : xwait.length = ywait.length
    · rw [decide_eq_true e, e]; simp
    · rw [decide_eq_false e]; simp; omega
  have g6 : (xout.toList == yout.toList) = !p6 := by rw [← h6]; simp
  have g7 : (xinp.toList == yinp.toList) = !p7 := by rw [← h7]; simp
  have g8 : (xhow == yhow) = !p8 := by rw [← h8]; unfold bne; simp
  have g9 : (xexit == yexit) = !p9 := by rw [← h9]; unfold bne; simp
  have g10 : decide (xsnaps.length = ysnaps.length) = !p10 := by
    rw [← h10]
    by_cases e : xsnaps.length = ysnaps.length
    · rw [decide_eq_true e, e]; simp
    · rw [decide_eq_false e]; simp; omega
  rw [g1, g2, g3, g4, g5, g6, g7, g8, g9, g10] at E
  have G5 := Lib.hid g5
  have G10 := Lib.hid g10
  clear g1 g2 g3 g4 g5 g6 g7 g8 g9 g10
  go_enter Try.func87, Try.ntmps87
  go_upto_region 1 with (fail)
  refine wp_name (fun W1 hW => ?_)
  have b2 := Blk.new' hW
  have b1 : Blk W1 w.heap.size _ _ := (Blk.new w _ _).alloc' hW
  have x1 := ((Ext.refl w).alloc _).alloc' hW
  simp only [World.size_alloc] at b2
  clear hW
  obtain ⟨r1, r2, r3⟩ := b1.rules
  obtain ⟨s1, s2, s3⟩ := b2.rules
  have B1 := Lib.hid b1
  have B2 := Lib.hid b2
  have X1 := Lib.hid x1
  clear b1 b2 x1
  refine wp_region_fixed ?_
  try simp only [List.append]
  repeat (go_big_quiet_step ((first | (go_at_call 111; with_reducible exact calls_ext (CI.out _ (X1.out.ext _))) | (go_at_call 111; with_reducible exact calls_ext (CJ.out _ (X1.out.ext _))))))
  cases p1 with
  | true =>
    rw [Bool.not_true, Bool.false_and] at E
    repeat (go_big_quiet_step ((first | (go_at_call 111; with_reducible exact calls_ext (CI.out _ (X1.out.ext _))) | (go_at_call 111; with_reducible exact calls_ext (CJ.out _ (X1.out.ext _))))))
    refine wpQuiet_nil ?_
    rintro W3 ⟨xx, rfl⟩
    go_wp2_with fail
    go_ret
    exact ⟨ret_bool E.out.symm, X1.out.trans (is_ext _ _)⟩
  | false =>
    rw [Bool.not_false, Bool.true_and] at E
    repeat (go_big_quiet_step ((first | (go_at_call 111; with_reducible exact calls_ext (CI.out _ (X1.out.ext _))) | (go_at_call 111; with_reducible exact calls_ext (CJ.out _ (X1.out.ext _))))))
    cases p2 with
    | true =>
      rw [Bool.not_true, Bool.false_and] at E
      repeat (go_big_quiet_step ((first | (go_at_call 111; with_reducible exact calls_ext (CI.out _ (X1.out.ext _))) | (go_at_call 111; with_reducible exact calls_ext (CJ.out _ (X1.out.ext _))))))
      refine wpQuiet_nil ?_
      rintro W3 ⟨xx, rfl⟩
      go_wp2_with fail
      go_ret
      exact ⟨ret_bool E.out.symm, X1.out.trans (is_ext _ _)⟩
    | false =>
      rw [Bool.not_false, Bool.true_and] at E
      repeat (go_big_quiet_step ((first | (go_at_call 111; with_reducible exact calls_ext (CI.out _ (X1.out.ext _))) | (go_at_call 111; with_reducible exact calls_ext (CJ.out _ (X1.out.ext _))))))
      cases p3 with
      | true =>
        rw [Bool.not_true, Bool.false_and] at E
        repeat (go_big_quiet_step ((first | (go_at_call 111; with_reducible exact calls_ext (CI.out _ (X1.out.ext _))) | (go_at_call 111; with_reducible exact calls_ext (CJ.out _ (X1.out.ext _))))))
        refine wpQuiet_nil ?_
        rintro W3 ⟨xx, rfl⟩
        go_wp2_with fail
        go_ret
        exact ⟨ret_bool E.out.symm, X1.out.trans (is_ext _ _)⟩
      | false =>
        rw [Bool.not_false, Bool.true_and] at E
        repeat (go_big_quiet_step ((first | (go_at_call 111; with_reducible exact calls_ext (CI.out _ (X1.out.ext _))) | (go_at_call 111; with_reducible exact calls_ext (CJ.out _ (X1.out.ext _))))))
        cases p4 with
        | true =>
          rw [Bool.not_true, Bool.false_and] at E
          repeat (go_big_quiet_step ((first | (go_at_call 111; with_reducible exact calls_ext (CI.out _ (X1.out.ext _))) | (go_at_call 111; with_reducible exact calls_ext (CJ.out _ (X1.out.ext _))))))
          refine wpQuiet_nil ?_
          rintro W3 ⟨xx, rfl⟩
          go_wp2_with fail
          go_ret
          exact ⟨ret_bool E.out.symm, X1.out.trans (is_ext _ _)⟩
        | false =>
          rw [Bool.not_false, Bool.true_and] at E
          repeat (go_big_quiet_step ((first | (go_at_call 111; with_reducible exact calls_ext (CI.out _ (X1.out.ext _))) | (go_at_call 111; with_reducible exact calls_ext (CJ.out _ (X1.out.ext _))))))
          cases p5 with
          | true =>
            rw [Bool.not_true, Bool.false_and] at E
            repeat (go_big_quiet_step ((first | (go_at_call 111; with_reducible exact calls_ext (CI.out _ (X1.out.ext _))) | (go_at_call 111; with_reducible exact calls_ext (CJ.out _ (X1.out.ext _))))))
            refine wpQuiet_nil ?_
            rintro W3 ⟨xx, rfl⟩
            go_wp2_with fail
            go_ret
            exact ⟨ret_bool E.out.symm, X1.out.trans (is_ext _ _)⟩
          | false =>
            rw [Bool.not_false, Bool.true_and] at E
            repeat (go_big_quiet_step ((first | (go_at_call 111; with_reducible exact calls_ext (CI.out _ (X1.out.ext _))) | (go_at_call 111; with_reducible exact calls_ext (CJ.out _ (X1.out.ext _))))))
            cases p6 with
            | true =>
              rw [Bool.not_true, Bool.false_and] at E
              repeat (go_big_quiet_step ((first | (go_at_call 111; with_reducible exact calls_ext (CI.out _ (X1.out.ext _))) | (go_at_call 111; with_reducible exact calls_ext (CJ.out _ (X1.out.ext _))))))
              refine wpQuiet_nil ?_
              rintro W3 ⟨xx, rfl⟩
              go_wp2_with fail
              go_ret
              exact ⟨ret_bool E.out.symm, X1.out.trans (is_ext _ _)⟩
            | false =>
              rw [Bool.not_false, Bool.true_and] at E
              repeat (go_big_quiet_step ((first | (go_at_call 111; with_reducible exact calls_ext (CI.out _ (X1.out.ext _))) | (go_at_call 111; with_reducible exact calls_ext (CJ.out _ (X1.out.ext _))))))
              cases p7 with
              | true =>
                rw [Bool.not_true, Bool.false_and] at E
                repeat (go_big_quiet_step ((first | (go_at_call 111; with_reducible exact calls_ext (CI.out _ (X1.out.ext _))) | (go_at_call 111; with_reducible exact calls_ext (CJ.out _ (X1.out.ext _))))))
                refine wpQuiet_nil ?_
                rintro W3 ⟨xx, rfl⟩
                go_wp2_with fail
                go_ret
                exact ⟨ret_bool E.out.symm, X1.out.trans (is_ext _ _)⟩
              | false =>
                rw [Bool.not_false, Bool.true_and] at E
                repeat (go_big_quiet_step ((first | (go_at_call 111; with_reducible exact calls_ext (CI.out _ (X1.out.ext _))) | (go_at_call 111; with_reducible exact calls_ext (CJ.out _ (X1.out.ext _))))))
                cases p8 with
                | true =>
                  rw [Bool.not_true, Bool.false_and] at E
                  repeat (go_big_quiet_step ((first | (go_at_call 111; with_reducible exact calls_ext (CI.out _ (X1.out.ext _))) | (go_at_call 111; with_reducible exact calls_ext (CJ.out _ (X1.out.ext _))))))
                  refine wpQuiet_nil ?_
                  rintro W3 ⟨xx, rfl⟩
                  go_wp2_with fail
                  go_ret
                  exact ⟨ret_bool E.out.symm, X1.out.trans (is_ext _ _)⟩
                | false =>
                  rw [Bool.not_false, Bool.true_and] at E
                  repeat (go_big_quiet_step ((first | (go_at_call 111; with_reducible exact calls_ext (CI.out _ (X1.out.ext _))) | (go_at_call 111; with_reducible exact calls_ext (CJ.out _ (X1.out.ext _))))))
                  cases p9 with
                  | true =>
                    rw [Bool.not_true, Bool.false_and] at E
                    repeat (go_big_quiet_step ((first | (go_at_call 111; with_reducible exact calls_ext (CI.out _ (X1.out.ext _))) | (go_at_call 111; with_reducible exact calls_ext (CJ.out _ (X1.out.ext _))))))
                    refine wpQuiet_nil ?_
                    rintro W3 ⟨xx, rfl⟩
                    go_wp2_with fail
                    go_ret
                    exact ⟨ret_bool E.out.symm, X1.out.trans (is_ext _ _)⟩
                  | false =>
                    rw [Bool.not_false, Bool.true_and] at E
                    repeat (go_big_quiet_step ((first | (go_at_call 111; with_reducible exact calls_ext (CI.out _ (X1.out.ext _))) | (go_at_call 111; with_reducible exact calls_ext (CJ.out _ (X1.out.ext _))))))
                    cases p10 with
                    | true =>
                      rw [Bool.not_true, Bool.false_and] at E
                      repeat (go_big_quiet_step ((first | (go_at_call 111; with_reducible exact calls_ext (CI.out _ (X1.out.ext _))) | (go_at_call 111; with_reducible exact calls_ext (CJ.out _ (X1.out.ext _))))))
                      refine wpQuiet_nil ?_
                      rintro W3 ⟨xx, rfl⟩
                      go_wp2_with fail
                      go_ret
                      exact ⟨ret_bool E.out.symm, X1.out.trans (is_ext _ _)⟩
                    | false =>
                      rw [Bool.not_false, Bool.true_and] at E
                      repeat (go_big_quiet_step ((first | (go_at_call 111; with_reducible exact calls_ext (CI.out _ (X1.out.ext _))) | (go_at_call 111; with_reducible exact calls_ext (CJ.out _ (X1.out.ext _))))))
                      refine wpQuiet_nil ?_
                      rintro W3 ⟨xx, hx⟩
                      have hFG : xwait.length = ywait.length := by have := G5.out; simpa using this
                      have hFS : xsnaps.length = ysnaps.length := by have := G10.out; simpa using this
                      rw [← hFG] at HV
                      rw [← hFS] at HZ
                      have X3 : Hid (Ext w W3) := Lib.hid (X1.out.trans ⟨xx, hx⟩)
                      have C1 := Lib.hid (B1.out.ext ⟨xx, hx⟩)
                      have C2 := Lib.hid (B2.out.ext ⟨xx, hx⟩)
                      clear hx B1 B2 X1 r1 r2 r3 s1 s2 s3
                      obtain ⟨r1, r2, r3⟩ := C1.out.rules
                      obtain ⟨s1, s2, s3⟩ := C2.out.rules
                      generalize hm : xwait.length = m at *
                      generalize hk : xsnaps.length = k at *
                      have HM := Lib.hid hFG
                      have HK := Lib.hid hFS
                      clear hFG hFS hm hk h1 h2 h5 h6 h7 h8 h9 h10
                      go_wp2_with fail
                      go_loopw [5] (fun iv wr => ∃ i : Nat, i ≤ m ∧ iv = .int .i64 i ∧ allTo (fun i => eqP (wAt xwait i) (wAt ywait i)) i = true ∧ Ext W3 wr) (fun iv _ => m - (intOf iv).toNat)
                      case atStart => exact ⟨0, Nat.zero_le _, rfl, rfl, Ext.refl _⟩
                      case round =>
                        obtain ⟨i, hi, rfl, ha, xr⟩ := hrel
                        have HA := Lib.hid ha
                        have X := Lib.hid xr
                        have XA := Lib.hid (X3.out.trans xr)
                        have D1 := Lib.hid (C1.out.ext xr)
                        have D2 := Lib.hid (C2.out.ext xr)
                        clear r1 r2 r3 s1 s2 s3 ha xr
                        obtain ⟨r1, r2, r3⟩ := D1.out.rules
                        obtain ⟨s1, s2, s3⟩ := D2.out.rules
                        by_cases hlt : i < m
                        · obtain ⟨b, off, rfl, hb, k0, k1⟩ := HW.out _ XA.out i hlt
                          obtain ⟨b', off', rfl, hb', k0', k1'⟩ := HV.out _ XA.out i hlt
                          have iN : (i : Int) < (m : Int) := by omega
                          have iN' : (i : Int) < (ywait.length : Int) := by have := HM.out; omega
                          have BAD : Hid (eqP (wAt xwait i) (wAt ywait i) = false → res = false) := Lib.hid (fun hf => by rw [E.out, EW.out, AW.out i hlt hf]; rfl)
                          have YES : Hid (eqP (wAt xwait i) (wAt ywait i) = true → allTo (fun i => eqP (wAt xwait i) (wAt ywait i)) (i + 1) = true) := Lib.hid (fun hf => AWS.out i HA.out hf)
                          have EV : Hid (eqP (wAt xwait i) (wAt ywait i) = ((wAt xwait i).1 == (wAt ywait i).1 && (wAt xwait i).2 == (wAt ywait i).2)) := rfl
                          generalize eqP (wAt xwait i) (wAt ywait i) = ev at *
                          generalize wAt xwait i = u at *
                          generalize wAt ywait i = u' at *
                          obtain ⟨uo, un⟩ := u
                          obtain ⟨vo, vn⟩ := u'
                          simp only at k0 k1 k0' k1' EV
                          obtain ⟨p1, h1⟩ : ∃ p, (uo != vo) = p := ⟨_, rfl⟩
                          obtain ⟨p2, h2⟩ : ∃ p, (un != vn) = p := ⟨_, rfl⟩
                          have g1 : (uo == vo) = !p1 := by rw [← h1]; unfold bne; simp
                          have g2 : (un == vn) = !p2 := by rw [← h2]; unfold bne; simp
                          rw [g1, g2] at EV
                          clear g1 g2
                          go_upto_region 6 with (fail)
                          refine wp_region_ext (by kernel_rfl) (by kernel_rfl) ?_
                          repeat (go_big_quiet_step (fail))
                          cases p1 with
                          | true =>
                            have A1 := Lib.hid (BAD.out (by rw [EV.out]; rfl))
                            clear BAD YES
                            repeat (go_big_quiet_step (fail))
                            refine wpQuiet_nil ?_
                            rintro W4 ⟨x4, rfl⟩
                            go_wp2_with fail
                            go_ret
                            exact ⟨ret_bool A1.out.symm, XA.out.trans (is_ext _ _)⟩
                          | false =>
                            repeat (go_big_quiet_step (fail))
                            cases p2 with
                            | true =>
                              have A1 := Lib.hid (BAD.out (by rw [EV.out]; rfl))
                              clear BAD YES
                              repeat (go_big_quiet_step (fail))
                              refine wpQuiet_nil ?_
                              rintro W4 ⟨x4, rfl⟩
                              go_wp2_with fail
                              go_ret
                              exact ⟨ret_bool A1.out.symm, XA.out.trans (is_ext _ _)⟩
                            | false =>
                              have A1 := Lib.hid (YES.out (by rw [EV.out]; rfl))
                              clear BAD YES
                              repeat (go_big_quiet_step (fail))
                              refine wpQuiet_nil ?_
                              rintro W4 ⟨x4, rfl⟩
                              go_wp2_with fail
                              go_roundw
                              case rel => exact ⟨i + 1, by omega, by go_num, A1.out, X.out.trans (is_ext _ _)⟩
                              case measure => simp [intOf]; omega
                        · obtain rfl : i = m := by omega
                          have E2 : Hid (res = bs) := Lib.hid (by rw [E.out, EW.out, HA.out, Bool.true_and])
                          clear E EW AW AWS HA HW HV
                          go_wp2_with fail
                          go_loopw [6] (fun iv wt => ∃ j : Nat, j ≤ k ∧ iv = .int .i64 j ∧ allTo (fun i => (sAt xsnaps i).toList == (sAt ysnaps i).toList) j = true ∧ Ext wr wt) (fun iv _ => k - (intOf iv).toNat)
                          case atStart => exact ⟨0, Nat.zero_le _, rfl, rfl, Ext.refl _⟩
                          case round =>
                            obtain ⟨j, hj, rfl, ha, xt⟩ := hrel
                            have HA := Lib.hid ha
                            have Y := Lib.hid xt
                            have XB := Lib.hid (XA.out.trans xt)
                            have F1 := Lib.hid (D1.out.ext xt)
                            have F2 := Lib.hid (D2.out.ext xt)
                            clear r1 r2 r3 s1 s2 s3 ha xt
                            obtain ⟨r1, r2, r3⟩ := F1.out.rules
                            obtain ⟨s1, s2, s3⟩ := F2.out.rules
                            by_cases hlt : j < k
                            · obtain ⟨b, off, rfl, hb, k0⟩ := HS.out _ XB.out j hlt
                              obtain ⟨b', off', rfl, hb', k0'⟩ := HZ.out _ XB.out j hlt
                              have jN : (j : Int) < (k : Int) := by omega
                              have jN' : (j : Int) < (ysnaps.length : Int) := by have := HK.out; omega
                              have BAD : Hid (((sAt xsnaps j).toList == (sAt ysnaps j).toList) = false → res = false) := Lib.hid (fun hf => by rw [E2.out, ES.out]; exact AN.out j hlt hf)
                              have YES : Hid (((sAt xsnaps j).toList == (sAt ysnaps j).toList) = true → allTo (fun i => (sAt xsnaps i).toList == (sAt ysnaps i).toList) (j + 1) = true) := Lib.hid (fun hf => ANS.out j HA.out hf)
                              generalize sAt xsnaps j = u at *
                              generalize sAt ysnaps j = u' at *
                              obtain ⟨p1, h1⟩ : ∃ p, (!(u.toList == u'.toList)) = p := ⟨_, rfl⟩
                              have g1 : (u.toList == u'.toList) = !p1 := by rw [← h1]; simp
                              rw [g1] at BAD YES
                              clear g1
                              go_upto_region 11 with (fail)
                              refine wp_region_ext (by kernel_rfl) (by kernel_rfl) ?_
                              repeat (go_big_quiet_step (fail))
                              refine wpQuiet_nil ?_
                              rintro W4 ⟨x4, rfl⟩
                              cases p1 with
                              | true =>
                                have A1 := Lib.hid (BAD.out rfl)
                                clear BAD YES
                                go_wp2_with fail
                                go_ret
                                exact ⟨ret_bool A1.out.symm, XB.out.trans (is_ext _ _)⟩
                              | false =>
                                have A1 := Lib.hid (YES.out rfl)
                                clear BAD YES
                                go_wp2_with fail
                                go_roundw
                                case rel => exact ⟨j + 1, by omega, by go_num, A1.out, Y.out.trans (is_ext _ _)⟩
                                case measure => simp [intOf]; omega
                            · obtain rfl : j = k := by omega
                              go_wp2_with fail
                              go_ret
                              exact ⟨ret_bool (by rw [E2.out, ES.out, HA.out]), XB.out⟩
end
end Go.Proofs.Ytadhkmplhgcgkaa.World
namespace Go.Proofs.Ytadhkmplhgcgkaa.World
open Go.RowKit Go.Proofs.Ytadhkmplhgcgkaa.Plain
set_option linter.unusedVariables false
attribute [local go_sem ↓] Go.wp_at_zero Go.wp_at_succ
def eqThB (A B : PW) (i : Nat) : Bool := eqT (tAt A.L i) (tAt B.L i) && (liveB A i == liveB B i)
def eqE (A B : PW) : Bool := decide (A.L.length = B.L.length) && (A.last == B.last && (eqR A.R B.R && allTo (eqThB A B) A.L.length))
section
variable {w : World}
set_option maxRecDepth 100000 in
set_option maxHeartbeats 8000000 in
theorem requal {x y : WV} {A B : PW} (hA : WorldAt w x A) (hB : WorldAt w y B) :
    Calls Try.prog 50 #[.agg (cellsW A x), .agg (cellsW B y)] w fun e w' => e = .returned (.bool (eqE A B)) ∧ Ext w w' := by
  have CS := Lib.hid (fun W2 (z : Ext w W2) => rsameRegs ((hA.ext z).ready) ((hA.ext z).wait) ((hA.ext z).due) ((hA.ext z).snaps) ((hB.ext z).ready) ((hB.ext z).wait) ((hB.ext z).due) ((hB.ext z).snaps))
  have LA := Lib.hid (fun W2 (z : Ext w W2) (i : Int) => rlive (hA.ext z) i)
  have LB := Lib.hid (fun W2 (z : Ext w W2) (i : Int) => rlive (hB.ext z) i)
  have FA := Lib.hid (fun (j : Nat) (hj : j < A.L.length) => hA.L.flds j hj)
  have FB := Lib.hid (fun (j : Nat) (hj : j < B.L.length) => hB.L.flds j hj)
  unfold cellsR at CS
  unfold cellsW at LA LB ⊢
  obtain ⟨vL, fs, vD, vRe, vWa, vDu, vSn⟩ := x
  obtain ⟨uL, gs, uD, uRe, uWa, uDu, uSn⟩ := y
  simp only at CS LA LB FA FB ⊢
  obtain ⟨AvL, cvL, evL, lvL, _⟩ := hA.L.row.form
  replace evL : vL = .slice AvL A.L.length cvL := evL
  subst evL
  obtain ⟨AvD, cvD, evD, lvD, _⟩ := Row.form hA.dead
  replace evD : vD = .slice AvD A.dead.length cvD := evD
  subst evD
  obtain ⟨AvRe, cvRe, evRe, lvRe, _⟩ := Row.form hA.ready
  replace evRe : vRe = .slice AvRe A.R.ready.length cvRe := evRe
  subst evRe
  obtain ⟨AvWa, cvWa, evWa, lvWa, _⟩ := Row.form hA.wait
  replace evWa : vWa = .slice AvWa A.R.wait.length cvWa := evWa
  subst evWa
  obtain ⟨AvDu, cvDu, evDu, lvDu, _⟩ := Row.form hA.due
  replace evDu : vDu = .slice AvDu A.R.due.length cvDu := evDu
  subst evDu
  obtain ⟨AvSn, cvSn, evSn, lvSn, _⟩ := Row.form hA.snaps
  replace evSn : vSn = .slice AvSn A.R.snaps.length cvSn := evSn
  subst evSn
  obtain ⟨AuL, cuL, euL, luL, _⟩ := hB.L.row.form
  replace euL : uL = .slice AuL B.L.length cuL := euL
  subst euL
  obtain ⟨AuD, cuD, euD, luD, _⟩ := Row.form hB.dead
  replace euD : uD = .slice AuD B.dead.length cuD := euD
  subst euD
  obtain ⟨AuRe, cuRe, euRe, luRe, _⟩ := Row.form hB.ready
  replace euRe : uRe = .slice AuRe B.R.ready.length cuRe := euRe
  subst euRe
  obtain ⟨AuWa, cuWa, euWa, luWa, _⟩ := Row.form hB.wait
  replace euWa : uWa = .slice AuWa B.R.wait.length cuWa := euWa
  subst euWa
  obtain ⟨AuDu, cuDu, euDu, luDu, _⟩ := Row.form hB.due
  replace euDu : uDu = .slice AuDu B.R.due.length cuDu := euDu
  subst euDu
  obtain ⟨AuSn, cuSn, euSn, luSn, _⟩ := Row.form hB.snaps
  replace euSn : uSn = .slice AuSn B.R.snaps.length cuSn := euSn
  subst euSn
  have HCA := Lib.hid (fun (j : Nat) (hj : j < A.L.length) => hA.L.cells rfl j hj)
  have HCB := Lib.hid (fun (j : Nat) (hj : j < B.L.length) => hB.L.cells rfl j hj)
  have E : Hid (eqE A B = (decide (A.L.length = B.L.length) && (A.last == B.last && (eqR A.R B.R && allTo (eqThB A B) A.L.length)))) := rfl
  have AF := Lib.hid (allTo_false (eqThB A B) A.L.length)
  have AS := Lib.hid (allTo_succ (eqThB A B))
  have ET : Hid (∀ i, eqThB A B i = (eqT (tAt A.L i) (tAt B.L i) && (liveB A i == liveB B i))) := Lib.hid (fun i => rfl)
  clear hA hB
  obtain ⟨p1, h1⟩ : ∃ p, ((A.L.length : Int) != (B.L.length : Int)) = p := ⟨_, rfl⟩
  obtain ⟨p2, h2⟩ : ∃ p, (A.last != B.last) = p := ⟨_, rfl⟩
  generalize eqE A B = res at *
  generalize eqR A.R B.R = q3 at *
  obtain ⟨p3, h3⟩ : ∃ p, (!q3) = p := ⟨_, rfl⟩
  have g1 : decide (A.L.length = B.L.length) = !p1 := by
    rw [← h1]
    by_cases e : A.L.length = B.L.length
    · rw [decide_eq_true e, e]; simp
    · rw [decide_eq_false e]; simp; omega
  have g2 : (A.last == B.last) = !p2 := by rw [← h2]; unfold bne; simp
  have g3 : q3 = !p3 := by rw [← h3]; simp
  rw [g1, g2, g3] at E
  have G1 := Lib.hid g1
  clear g1 g2 g3
  go_enter Try.func50, Try.ntmps50
  go_upto_region 1 with (fail)
  refine wp_name (fun W1 hW => ?_)
  have b2 := Blk.new' hW
  have b1 : Blk W1 w.heap.size _ _ := (Blk.new w _ _).alloc' hW
  have x1 := ((Ext.refl w).alloc _).alloc' hW
  simp only [World.size_alloc] at b2
  clear hW
  obtain ⟨r1, r2, r3⟩ := b1.rules
  obtain ⟨s1, s2, s3⟩ := b2.rules
  have B1 := Lib.hid b1
  have B2 := Lib.hid b2
  have X1 := Lib.hid x1
  clear b1 b2 x1
  refine wp_region_fixed ?_
  try simp only [List.append]
  repeat (go_big_quiet_step ((go_at_call 87; with_reducible exact calls_ext (CS.out _ (X1.out.ext _)))))
  cases p1 with
  | true =>
    rw [Bool.not_true, Bool.false_and] at E
    repeat (go_big_quiet_step ((go_at_call 87; with_reducible exact calls_ext (CS.out _ (X1.out.ext _)))))
    refine wpQuiet_nil ?_
    rintro W3 ⟨xx, rfl⟩
    go_wp2_with fail
    go_ret
    exact ⟨ret_bool E.out.symm, X1.out.trans (is_ext _ _)⟩
  | false =>
    rw [Bool.not_false, Bool.true_and] at E
    repeat (go_big_quiet_step ((go_at_call 87; with_reducible exact calls_ext (CS.out _ (X1.out.ext _)))))
    cases p2 with
    | true =>
      rw [Bool.not_true, Bool.false_and] at E
      repeat (go_big_quiet_step ((go_at_call 87; with_reducible exact calls_ext (CS.out _ (X1.out.ext _)))))
      refine wpQuiet_nil ?_
      rintro W3 ⟨xx, rfl⟩
      go_wp2_with fail
      go_ret
      exact ⟨ret_bool E.out.symm, X1.out.trans (is_ext _ _)⟩
    | false =>
      rw [Bool.not_false, Bool.true_and] at E
      repeat (go_big_quiet_step ((go_at_call 87; with_reducible exact calls_ext (CS.out _ (X1.out.ext _)))))
      cases p3 with
      | true =>
        rw [Bool.not_true, Bool.false_and] at E
        repeat (go_big_quiet_step ((go_at_call 87; with_reducible exact calls_ext (CS.out _ (X1.out.ext _)))))
        refine wpQuiet_nil ?_
        rintro W3 ⟨xx, rfl⟩
        go_wp2_with fail
        go_ret
        exact ⟨ret_bool E.out.symm, X1.out.trans (is_ext _ _)⟩
      | false =>
        rw [Bool.not_false, Bool.true_and] at E
        repeat (go_big_quiet_step ((go_at_call 87; with_reducible exact calls_ext (CS.out _ (X1.out.ext _)))))
        refine wpQuiet_nil ?_
        rintro W3 ⟨xx, hx⟩
        have hFG : A.L.length = B.L.length := by have := G1.out; simpa using this
        rw [← hFG] at FB HCB
        have X3 : Hid (Ext w W3) := Lib.hid (X1.out.trans ⟨xx, hx⟩)
        have C1 := Lib.hid (B1.out.ext ⟨xx, hx⟩)
        have C2 := Lib.hid (B2.out.ext ⟨xx, hx⟩)
        clear hx B1 B2 X1 r1 r2 r3 s1 s2 s3 CS
        obtain ⟨r1, r2, r3⟩ := C1.out.rules
        obtain ⟨s1, s2, s3⟩ := C2.out.rules
        generalize hm : A.L.length = m at *
        have HM := Lib.hid hFG
        clear hFG hm h1 h2 h3
        go_wp2_with fail
        go_loopw [5] (fun iv wr => ∃ i : Nat, i ≤ m ∧ iv = .int .i64 i ∧ allTo (eqThB A B) i = true ∧ Ext W3 wr) (fun iv _ => m - (intOf iv).toNat)
        case atStart => exact ⟨0, Nat.zero_le _, rfl, rfl, Ext.refl _⟩
        case round =>
          obtain ⟨i, hi, rfl, ha, xr⟩ := hrel
          have HA := Lib.hid ha
          have X := Lib.hid xr
          have XA := Lib.hid (X3.out.trans xr)
          have D1 := Lib.hid (C1.out.ext xr)
          have D2 := Lib.hid (C2.out.ext xr)
          clear r1 r2 r3 s1 s2 s3 ha xr
          obtain ⟨r1, r2, r3⟩ := D1.out.rules
          obtain ⟨s1, s2, s3⟩ := D2.out.rules
          by_cases hlt : i < m
          · obtain ⟨b, off, rfl, hb, d0, d1, d2, d3, d4, d5⟩ := HCA.out i hlt
            obtain ⟨b', off', rfl, hb', d0', d1', d2', d3', d4', d5'⟩ := HCB.out i hlt
            have ST := Lib.hid (fun W2 (z : Ext w W2) => rsameThing (Row.ext (FA.out i hlt) z) (Row.ext (FB.out i hlt) z))
            obtain ⟨AF1, cF1, ef, f1, f2⟩ := Row.form (FA.out i hlt)
            obtain ⟨AF2, cF2, eg, f3, f4⟩ := Row.form (FB.out i hlt)
            replace ef : fs i = .slice AF1 (tAt A.L i).F.length cF1 := ef
            replace eg : gs i = .slice AF2 (tAt B.L i).F.length cF2 := eg
            replace d4 : w.cell? ⟨b, off + i * 6 + 4, none⟩ = some (fs i) := d4
            replace d4' : w.cell? ⟨b', off' + i * 6 + 4, none⟩ = some (gs i) := d4'
            rw [ef] at d4
            rw [eg] at d4'
            simp only [ef, eg] at ST
            unfold aggT at ST
            replace d0 := (XA.out.below.cell (p := ⟨b, off + i * 6, none⟩) hb).trans d0
            replace d1 := (XA.out.below.cell (p := ⟨b, off + i * 6 + 1, none⟩) hb).trans d1
            replace d2 := (XA.out.below.cell (p := ⟨b, off + i * 6 + 2, none⟩) hb).trans d2
            replace d3 := (XA.out.below.cell (p := ⟨b, off + i * 6 + 3, none⟩) hb).trans d3
            replace d4 := (XA.out.below.cell (p := ⟨b, off + i * 6 + 4, none⟩) hb).trans d4
            replace d5 := (XA.out.below.cell (p := ⟨b, off + i * 6 + 5, none⟩) hb).trans d5
            replace d0' := (XA.out.below.cell (p := ⟨b', off' + i * 6, none⟩) hb').trans d0'
            replace d1' := (XA.out.below.cell (p := ⟨b', off' + i * 6 + 1, none⟩) hb').trans d1'
            replace d2' := (XA.out.below.cell (p := ⟨b', off' + i * 6 + 2, none⟩) hb').trans d2'
            replace d3' := (XA.out.below.cell (p := ⟨b', off' + i * 6 + 3, none⟩) hb').trans d3'
            replace d4' := (XA.out.below.cell (p := ⟨b', off' + i * 6 + 4, none⟩) hb').trans d4'
            replace d5' := (XA.out.below.cell (p := ⟨b', off' + i * 6 + 5, none⟩) hb').trans d5'
            have hbr := Nat.lt_of_lt_of_le hb XA.out.below.size
            have hbr' := Nat.lt_of_lt_of_le hb' XA.out.below.size
            have iN : (i : Int) < (m : Int) := by omega
            have iN' : (i : Int) < (B.L.length : Int) := by have := HM.out; omega
            have BAD : Hid (eqThB A B i = false → res = false) := Lib.hid (fun hf => by rw [E.out]; exact AF.out i hlt hf)
            have YES : Hid (eqThB A B i = true → allTo (eqThB A B) (i + 1) = true) := Lib.hid (fun hf => AS.out i HA.out hf)
            have EV := Lib.hid (ET.out i)
            have LA1 := Lib.hid (fun W2 (z : Ext w W2) => LA.out W2 z (i : Int))
            have LB1 := Lib.hid (fun W2 (z : Ext w W2) => LB.out W2 z (i : Int))
            generalize eqT (tAt A.L i) (tAt B.L i) = q1 at *
            generalize liveB A (i : Int) = la at *
            generalize liveB B (i : Int) = lb at *
            generalize eqThB A B i = ev at *
            generalize tAt A.L i = t at *
            generalize tAt B.L i = t' at *
            obtain ⟨p1, h1⟩ : ∃ p, (!q1) = p := ⟨_, rfl⟩
            obtain ⟨p2, h2⟩ : ∃ p, (!(la == lb)) = p := ⟨_, rfl⟩
            have g1 : q1 = !p1 := by rw [← h1]; simp
            have g2 : (la == lb) = !p2 := by rw [← h2]; simp
            rw [g1, g2] at EV
            clear g1 g2 ef eg hb hb'
            go_upto_region 6 with (fail)
            refine wp_region_ext (by kernel_rfl) (by kernel_rfl) ?_
            repeat (go_big_quiet_step ((first | (go_at_call 88; with_reducible exact calls_ext (ST.out _ (XA.out.ext _))) | (go_at_call 28; with_reducible exact calls_ext (LA1.out _ (XA.out.ext _))) | (go_at_call 28; with_reducible exact calls_ext (LB1.out _ (XA.out.ext _))))))
            cases p1 with
            | true =>
              have A1 := Lib.hid (BAD.out (by rw [EV.out]; rfl))
              clear BAD YES
              repeat (go_big_quiet_step ((first | (go_at_call 88; with_reducible exact calls_ext (ST.out _ (XA.out.ext _))) | (go_at_call 28; with_reducible exact calls_ext (LA1.out _ (XA.out.ext _))) | (go_at_call 28; with_reducible exact calls_ext (LB1.out _ (XA.out.ext _))))))
              refine wpQuiet_nil ?_
              rintro W4 ⟨x4, rfl⟩
              go_wp2_with fail
              go_ret
              exact ⟨ret_bool A1.out.symm, XA.out.trans (is_ext _ _)⟩
            | false =>
              repeat (go_big_quiet_step ((first | (go_at_call 88; with_reducible exact calls_ext (ST.out _ (XA.out.ext _))) | (go_at_call 28; with_reducible exact calls_ext (LA1.out _ (XA.out.ext _))) | (go_at_call 28; with_reducible exact calls_ext (LB1.out _ (XA.out.ext _))))))
              cases p2 with
              | true =>
                have A1 := Lib.hid (BAD.out (by rw [EV.out]; rfl))
                clear BAD YES
                repeat (go_big_quiet_step ((first | (go_at_call 88; with_reducible exact calls_ext (ST.out _ (XA.out.ext _))) | (go_at_call 28; with_reducible exact calls_ext (LA1.out _ (XA.out.ext _))) | (go_at_call 28; with_reducible exact calls_ext (LB1.out _ (XA.out.ext _))))))
                refine wpQuiet_nil ?_
                rintro W4 ⟨x4, rfl⟩
                go_wp2_with fail
                go_ret
                exact ⟨ret_bool A1.out.symm, XA.out.trans (is_ext _ _)⟩
              | false =>
                have A1 := Lib.hid (YES.out (by rw [EV.out]; rfl))
                clear BAD YES
                repeat (go_big_quiet_step ((first | (go_at_call 88; with_reducible exact calls_ext (ST.out _ (XA.out.ext _))) | (go_at_call 28; with_reducible exact calls_ext (LA1.out _ (XA.out.ext _))) | (go_at_call 28; with_reducible exact calls_ext (LB1.out _ (XA.out.ext _))))))
                refine wpQuiet_nil ?_
                rintro W4 ⟨x4, rfl⟩
                go_wp2_with fail
                go_roundw
                case rel => exact ⟨i + 1, by omega, by go_num, A1.out, X.out.trans (is_ext _ _)⟩
                case measure => simp [intOf]; omega
          · obtain rfl : i = m := by omega
            go_wp2_with fail
            go_ret
            exact ⟨ret_bool (by rw [E.out, HA.out]), XA.out⟩
set_option maxRecDepth 100000 in
set_option maxHeartbeats 2000000 in
theorem lequal {x y : WV} {A B : PW} (hA : WorldAt w x A) (hB : WorldAt w y B) :
    Calls Try.prog 22 #[.agg (cellsW A x), .agg (cellsW B y)] w fun e w' => e = .returned (.bool (eqE A B)) ∧ Ext w w' := by
  have CE := Lib.hid (fun W2 (z : Ext w W2) => requal (hA.ext z) (hB.ext z))
  unfold cellsW at CE ⊢
  obtain ⟨vL, fs, vD, vRe, vWa, vDu, vSn⟩ := x
  obtain ⟨uL, gs, uD, uRe, uWa, uDu, uSn⟩ := y
  simp only at CE ⊢
  obtain ⟨AvL, cvL, evL, lvL, _⟩ := hA.L.row.form
  replace evL : vL = .slice AvL A.L.length cvL := evL
  subst evL
  obtain ⟨AvD, cvD, evD, lvD, _⟩ := Row.form hA.dead
  replace evD : vD = .slice AvD A.dead.length cvD := evD
  subst evD
  obtain ⟨AvRe, cvRe, evRe, lvRe, _⟩ := Row.form hA.ready
  replace evRe : vRe = .slice AvRe A.R.ready.length cvRe := evRe
  subst evRe
  obtain ⟨AvWa, cvWa, evWa, lvWa, _⟩ := Row.form hA.wait
  replace evWa : vWa = .slice AvWa A.R.wait.length cvWa := evWa
  subst evWa
  obtain ⟨AvDu, cvDu, evDu, lvDu, _⟩ := Row.form hA.due
  replace evDu : vDu = .slice AvDu A.R.due.length cvDu := evDu
  subst evDu
  obtain ⟨AvSn, cvSn, evSn, lvSn, _⟩ := Row.form hA.snaps
  replace evSn : vSn = .slice AvSn A.R.snaps.length cvSn := evSn
  subst evSn
  obtain ⟨AuL, cuL, euL, luL, _⟩ := hB.L.row.form
  replace euL : uL = .slice AuL B.L.length cuL := euL
  subst euL
  obtain ⟨AuD, cuD, euD, luD, _⟩ := Row.form hB.dead
  replace euD : uD = .slice AuD B.dead.length cuD := euD
  subst euD
  obtain ⟨AuRe, cuRe, euRe, luRe, _⟩ := Row.form hB.ready
  replace euRe : uRe = .slice AuRe B.R.ready.length cuRe := euRe
  subst euRe
  obtain ⟨AuWa, cuWa, euWa, luWa, _⟩ := Row.form hB.wait
  replace euWa : uWa = .slice AuWa B.R.wait.length cuWa := euWa
  subst euWa
  obtain ⟨AuDu, cuDu, euDu, luDu, _⟩ := Row.form hB.due
  replace euDu : uDu = .slice AuDu B.R.due.length cuDu := euDu
  subst euDu
  obtain ⟨AuSn, cuSn, euSn, luSn, _⟩ := Row.form hB.snaps
  replace euSn : uSn = .slice AuSn B.R.snaps.length cuSn := euSn
  subst euSn
  clear hA hB
  generalize eqE A B = res at *
  go_enter Try.func22, Try.ntmps22
  go_upto_region 1 with (fail)
  refine wp_name (fun W1 hW => ?_)
  have b2 := Blk.new' hW
  have b1 : Blk W1 w.heap.size _ _ := (Blk.new w _ _).alloc' hW
  have x1 := ((Ext.refl w).alloc _).alloc' hW
  simp only [World.size_alloc] at b2
  clear hW
  obtain ⟨r1, r2, r3⟩ := b1.rules
  obtain ⟨s1, s2, s3⟩ := b2.rules
  have X1 := Lib.hid x1
  clear b1 b2 x1
  go_wp2_with ((go_at_call 50; refine (CE.out _ (X1.out.trans (is_ext _ _))).mono ?_; rintro e w2 ⟨rfl, x2⟩; have X2 := Lib.hid (X1.out.trans ((is_ext _ _).trans x2)); clear x2))
  go_ret
  exact ⟨ret_bool rfl, X2.out⟩
end
end Go.Proofs.Ytadhkmplhgcgkaa.World
namespace Go.Proofs.Ytadhkmplhgcgkaa.World
open Go.RowKit Go.Proofs.Ytadhkmplhgcgkaa.Plain
set_option linter.unusedVariables false
theorem grown_ext0 {w w3 : World} (g : w.grownBy w3 (Value.slice none 0 0).ownBlock) : Ext w w3 :=
  Ext.of_below ⟨g.os, g.tape, g.output, g.size, fun k hk => g.block k hk (by simp [Value.ownBlock])⟩
section
variable {P : Program}
theorem run_append_nil {w : World} (t ty e : TypeId) (i : TypeInfo) (z : Value) (size bytes : Nat) (ht : P.underlying t = some (.slice e)) (hi : P.info? e = some i) (hz : i.zero = some z)
    (hsize : i.size = size) (hby : i.bytes = bytes) (hzs : z.cells.size = size) (hsz : 0 < size) (hb100 : bytes ≤ 100) {A : Option Addr} {n cap : Nat} {c : Nat → Nat → Value}
    (h : Row w (.slice A n cap) n size c) (h1 : ∀ i j, (c i j).oneCell' = true) (hn : n ≤ 1000000) :
    ∃ v' w', (Builtin.append_ #[t, t] ty #[.slice none 0 0, .slice A n cap]).run P w = .ok v' w' ∧ Own w' w.heap.size e v' n size c ∧ Ext w w' := by
  have hnil : n = 0 → Own w w.heap.size e (.slice none 0 0) n size c := fun h0 => by
    subst h0
    exact ⟨by rw [flat_len], .inl ⟨rfl, rfl⟩⟩
  cases A with
  | none =>
    have hn0 : n = 0 := by
      rcases Nat.eq_zero_or_pos n with h0 | h0
      · exact h0
      · obtain ⟨b, off, e, _⟩ := Row.at_ h 0 h0
        cases e
    refine ⟨.slice none 0 0, w, ?_, hnil hn0, Ext.refl _⟩
    subst hn0
    exact run_append_nothing w t t ty e i ht hi none 0 0 (Nat.le_refl _) _ (Src.ofNil _ ht cap)
  | some a =>
    rcases Nat.eq_zero_or_pos n with h0 | h0
    · refine ⟨.slice none 0 0, w, ?_, hnil h0, Ext.refl _⟩
      subst h0
      exact run_append_nothing w t t ty e i ht hi none 0 0 (Nat.le_refl _) _ (Src.ofSlice _ ht a 0 cap [] (by simp) (by intro j u hj; simp at hj) (by intro u hu; cases hu))
    · obtain ⟨b, off, ea, _⟩ := Row.at_ h 0 h0
      injection ea with ea
      subst ea
      have hN := h.news
      obtain ⟨g, cap', w', hr, h2, h3, _, _⟩ := run_append_lies (P := P) w t ty w.heap.size e i z size bytes ht hi hz hsize hby hzs hsz (.slice none 0 0) 0 [] (World.ownsRow_nil _ _ _ _)
        ⟨b, off, none⟩ n cap (flat n size c) (flat_len _ _ _) hN (by
          intro u hu
          obtain ⟨q, hq, e⟩ := List.getElem_of_mem hu
          obtain ⟨_, _, rfl⟩ := flat_some (by rw [List.getElem?_eq_getElem hq, e])
          exact h1 _ _) h0 (by unfold maxLen; omega) (by
          have : (0 + n) * bytes ≤ 1000000 * 100 := Nat.mul_le_mul (by omega) hb100
          omega) (Nat.le_refl _) _ rfl
      rw [Nat.zero_add, List.nil_append] at h2
      rw [Nat.zero_add] at hr
      exact ⟨_, w', hr, h2, grown_ext0 h3⟩
theorem wp_append_nil {w : World} {o : Oper} {a : Act} {K : Act → World → Prop} {Q : Exit → Act → World → Prop} (x : Operand) (t : TypeId)
    (ho : o.op = .call { callee := .builtin .append, args := #[.const (.slice none 0 0), x], argTypes := #[t, t] })
    (e : TypeId) (i : TypeInfo) (z : Value) (size bytes : Nat) (ht : P.underlying t = some (.slice e)) (hi : P.info? e = some i) (hz : i.zero = some z)
    (hsize : i.size = size) (hby : i.bytes = bytes) (hzs : z.cells.size = size) (hsz : 0 < size) (hb100 : bytes ≤ 100) {A : Option Addr} {n cap : Nat} {c : Nat → Nat → Value}
    (hx : a.eval x = .slice A n cap) (h : Row w (.slice A n cap) n size c) (h1 : ∀ i j, (c i j).oneCell' = true) (hn : n ≤ 1000000)
    (hk : ∀ v' w', Own w' w.heap.size e v' n size c → Ext w w' → K (a.put o.dst v') w') : o.wp P a w K Q := by
  obtain ⟨v', w', hr, h2, h3⟩ := run_append_nil (P := P) t o.type e i z size bytes ht hi hz hsize hby hzs hsz hb100 h h1 hn
  have hs : a.eval (.const (.slice none 0 0)) = .slice none 0 0 := rfl
  unfold Oper.wp execOp
  simp only [ho, resolve, invoke, builtin, Sem.run_bind, Sem.run_pure, Result.andThen_ok, List.map_toArray, List.map_cons, List.map_nil, hs, hx, hr]
  exact hk v' w' h2 h3
theorem wpList_append_nil {w : World} {ops : Array Oper} {rest : List Oper} {o : Oper} {a : Act} {Q : Exit → Act → World → Prop} (hgd : o.guard = none) (x : Operand) (t : TypeId)
    (ho : o.op = .call { callee := .builtin .append, args := #[.const (.slice none 0 0), x], argTypes := #[t, t] })
    (e : TypeId) (i : TypeInfo) (z : Value) (size bytes : Nat) (ht : P.underlying t = some (.slice e)) (hi : P.info? e = some i) (hz : i.zero = some z)
    (hsize : i.size = size) (hby : i.bytes = bytes) (hzs : z.cells.size = size) (hsz : 0 < size) (hb100 : bytes ≤ 100) {A : Option Addr} {n cap : Nat} {c : Nat → Nat → Value}
    (hx : a.eval x = .slice A n cap) (h : Row w (.slice A n cap) n size c) (h1 : ∀ i j, (c i j).oneCell' = true) (hn : n ≤ 1000000)
    (hk : ∀ v' w', Own w' w.heap.size e v' n size c → Ext w w' → wpList P ops Q rest (a.put o.dst v') w') : wpList P ops Q (o :: rest) a w :=
  wpList_plain hgd fun _ hK => wp_append_nil x t ho e i z size bytes ht hi hz hsize hby hzs hsz hb100 hx h h1 hn fun v' w' h2 h3 => hK _ _ (hk v' w' h2 h3)
end
end Go.Proofs.Ytadhkmplhgcgkaa.World
namespace Go.Proofs.Ytadhkmplhgcgkaa.World
open Go.RowKit Go.Proofs.Ytadhkmplhgcgkaa.Plain
set_option linter.unusedVariables false
attribute [local go_sem ↓] Go.wp_at_zero Go.wp_at_succ
theorem infoI' : (Try.prog.info? 3).map (fun i => (i.zero, i.size, i.bytes)) = some (some (.int .i64 0), 1, 8) := by kernel_rfl
theorem infoW' : (Try.prog.info? 75).map (fun i => (i.zero, i.size, i.bytes)) = some (some (.agg #[.int .i64 0, .int .i64 0]), 2, 16) := by kernel_rfl
theorem infoS' : (Try.prog.info? 9).map (fun i => (i.zero, i.size, i.bytes)) = some (some (.string ⟨#[]⟩), 1, 16) := by kernel_rfl
def zeroR : Array Value := #[.int .i64 0, .int .i64 0, .slice none 0 0, .slice none 0 0, .slice none 0 0, .string ⟨#[]⟩, .string ⟨#[]⟩, .int .i64 0, .int .i64 0, .slice none 0 0]
theorem cells10 (x0 x1 x2 x3 x4 x5 x6 x7 x8 x9 : Value) : (((((((((zeroR.setIfInBounds 0 x0).setIfInBounds 1 x1).setIfInBounds 2 x2).setIfInBounds 3 x3).setIfInBounds 4 x4).setIfInBounds 5 x5).setIfInBounds 6 x6).setIfInBounds 7 x7).setIfInBounds 8 x8).setIfInBounds 9 x9 = #[x0, x1, x2, x3, x4, x5, x6, x7, x8, x9] := by simp [zeroR]
theorem far10 {w : World} {g q : Nat} {T : TypeId} {cs : Array Value} (h : Blk w g T cs) (hn : g ≠ q) (x0 x1 x2 x3 x4 x5 x6 x7 x8 x9 : Value) :
    Blk ((((((((((w.setCell ⟨q, 0, none⟩ x0).setCell ⟨q, 1, none⟩ x1).setCell ⟨q, 2, none⟩ x2).setCell ⟨q, 3, none⟩ x3).setCell ⟨q, 4, none⟩ x4).setCell ⟨q, 5, none⟩ x5).setCell ⟨q, 6, none⟩ x6).setCell ⟨q, 7, none⟩ x7).setCell ⟨q, 8, none⟩ x8).setCell ⟨q, 9, none⟩ x9) g T cs :=
  (((((((((h.far (p := ⟨q, 0, none⟩) hn _).far (p := ⟨q, 1, none⟩) hn _).far (p := ⟨q, 2, none⟩) hn _).far (p := ⟨q, 3, none⟩) hn _).far (p := ⟨q, 4, none⟩) hn _).far (p := ⟨q, 5, none⟩) hn _).far (p := ⟨q, 6, none⟩) hn _).far (p := ⟨q, 7, none⟩) hn _).far (p := ⟨q, 8, none⟩) hn _).far (p := ⟨q, 9, none⟩) hn _
theorem ext10 {a w : World} {q : Nat} (h : Ext a w) (hn : a.heap.size ≤ q) (x0 x1 x2 x3 x4 x5 x6 x7 x8 x9 : Value) :
    Ext a ((((((((((w.setCell ⟨q, 0, none⟩ x0).setCell ⟨q, 1, none⟩ x1).setCell ⟨q, 2, none⟩ x2).setCell ⟨q, 3, none⟩ x3).setCell ⟨q, 4, none⟩ x4).setCell ⟨q, 5, none⟩ x5).setCell ⟨q, 6, none⟩ x6).setCell ⟨q, 7, none⟩ x7).setCell ⟨q, 8, none⟩ x8).setCell ⟨q, 9, none⟩ x9) :=
  (((((((((h.setNew (p := ⟨q, 0, none⟩) hn _).setNew (p := ⟨q, 1, none⟩) hn _).setNew (p := ⟨q, 2, none⟩) hn _).setNew (p := ⟨q, 3, none⟩) hn _).setNew (p := ⟨q, 4, none⟩) hn _).setNew (p := ⟨q, 5, none⟩) hn _).setNew (p := ⟨q, 6, none⟩) hn _).setNew (p := ⟨q, 7, none⟩) hn _).setNew (p := ⟨q, 8, none⟩) hn _).setNew (p := ⟨q, 9, none⟩) hn _
theorem set10 {w : World} {g : Nat} {T : TypeId} (h : Blk w g T zeroR) (x0 x1 x2 x3 x4 x5 x6 x7 x8 x9 : Value) :
    Blk ((((((((((w.setCell ⟨g, 0, none⟩ x0).setCell ⟨g, 1, none⟩ x1).setCell ⟨g, 2, none⟩ x2).setCell ⟨g, 3, none⟩ x3).setCell ⟨g, 4, none⟩ x4).setCell ⟨g, 5, none⟩ x5).setCell ⟨g, 6, none⟩ x6).setCell ⟨g, 7, none⟩ x7).setCell ⟨g, 8, none⟩ x8).setCell ⟨g, 9, none⟩ x9) g T #[x0, x1, x2, x3, x4, x5, x6, x7, x8, x9] := by
  have := (((((((((h.set 0 x0).set 1 x1).set 2 x2).set 3 x3).set 4 x4).set 5 x5).set 6 x6).set 7 x7).set 8 x8).set 9 x9
  rw [cells10] at this
  exact this
theorem Own.r10 {w : World} {b rb : Nat} {e T : TypeId} {v : Value} {n sz : Nat} {c : Nat → Nat → Value} {cs : Array Value} (h : Own w b e v n sz c) (hb : Blk w rb T cs) (hne : e ≠ T) (x0 x1 x2 x3 x4 x5 x6 x7 x8 x9 : Value) :
    Own ((((((((((w.setCell ⟨rb, 0, none⟩ x0).setCell ⟨rb, 1, none⟩ x1).setCell ⟨rb, 2, none⟩ x2).setCell ⟨rb, 3, none⟩ x3).setCell ⟨rb, 4, none⟩ x4).setCell ⟨rb, 5, none⟩ x5).setCell ⟨rb, 6, none⟩ x6).setCell ⟨rb, 7, none⟩ x7).setCell ⟨rb, 8, none⟩ x8).setCell ⟨rb, 9, none⟩ x9) b e v n sz c := by
  have K := (((((((((((Keep.refl (· = rb) w).setCell (p := ⟨rb, 0, none⟩) rfl x0).setCell (p := ⟨rb, 1, none⟩) rfl x1).setCell (p := ⟨rb, 2, none⟩) rfl x2).setCell (p := ⟨rb, 3, none⟩) rfl x3).setCell (p := ⟨rb, 4, none⟩) rfl x4).setCell (p := ⟨rb, 5, none⟩) rfl x5).setCell (p := ⟨rb, 6, none⟩) rfl x6).setCell (p := ⟨rb, 7, none⟩) rfl x7).setCell (p := ⟨rb, 8, none⟩) rfl x8).setCell (p := ⟨rb, 9, none⟩) rfl x9)
  exact h.keep K hb hne
section
variable {w : World}
set_option maxRecDepth 100000 in
set_option maxHeartbeats 4000000 in
theorem rcopyRegs {R : PR} {re wa du sn : Value} (h1 : Row w re R.ready.length 1 (cI R.ready)) (h2 : Row w wa R.wait.length 2 (cWs R.wait)) (h3 : Row w du R.due.length 1 (cI R.due)) (h4 : Row w sn R.snaps.length 1 (cS R.snaps)) (m1 : R.ready.length ≤ 1000000) (m2 : R.wait.length ≤ 1000000) (m3 : R.due.length ≤ 1000000) (m4 : R.snaps.length ≤ 1000000) :
    Calls Try.prog 85 #[.agg (cellsR R re wa du sn)] w fun e w' => (∃ re' wa' du' sn', e = .returned (.agg (cellsR R re' wa' du' sn')) ∧ RegsNew w' w.heap.size R re' wa' du' sn') ∧ Ext w w' := by
  obtain ⟨A1, c1, rfl, l1, l1'⟩ := h1.form
  obtain ⟨A2, c2, rfl, l2, l2'⟩ := h2.form
  obtain ⟨A3, c3, rfl, l3, l3'⟩ := h3.form
  obtain ⟨A4, c4, rfl, l4, l4'⟩ := h4.form
  obtain ⟨iI, hI, hI0, hI1, hI2⟩ := info_parts infoI'
  obtain ⟨iW, hW, hW0, hW1, hW2⟩ := info_parts infoW'
  obtain ⟨iS, hS, hS0, hS1, hS2⟩ := info_parts infoS'
  unfold cellsR
  go_enter Try.func85, Try.ntmps85
  go_upto_region 2 with (fail)
  refine wp_name (fun w1 hw => ?_)
  have B0 := (Blk.new w 29 #[.int .i64 R.proc, .int .i64 R.frame, .slice A1 R.ready.length c1, .slice A2 R.wait.length c2, .slice A3 R.due.length c3, .string R.out, .string R.inp, .int .i64 R.how, .int .i64 R.exit, .slice A4 R.snaps.length c4])
  have P0 : Blk ((w.alloc (.cells #[.int .i64 R.proc, .int .i64 R.frame, .slice A1 R.ready.length c1, .slice A2 R.wait.length c2, .slice A3 R.due.length c3, .string R.out, .string R.inp, .int .i64 R.how, .int .i64 R.exit, .slice A4 R.snaps.length c4] 29)).alloc (.cells zeroR 29)) (w.heap.size + 1) 29 zeroR := by have := Blk.new (w.alloc (.cells #[.int .i64 R.proc, .int .i64 R.frame, .slice A1 R.ready.length c1, .slice A2 R.wait.length c2, .slice A3 R.due.length c3, .string R.out, .string R.inp, .int .i64 R.how, .int .i64 R.exit, .slice A4 R.snaps.length c4] 29)) 29 zeroR; rw [World.size_alloc] at this; exact this
  have Y0 := ((Ext.refl w).alloc (.cells #[.int .i64 R.proc, .int .i64 R.frame, .slice A1 R.ready.length c1, .slice A2 R.wait.length c2, .slice A3 R.due.length c3, .string R.out, .string R.inp, .int .i64 R.how, .int .i64 R.exit, .slice A4 R.snaps.length c4] 29)).alloc (.cells zeroR 29)
  have Z0 : Blk (((w.alloc (.cells #[.int .i64 R.proc, .int .i64 R.frame, .slice A1 R.ready.length c1, .slice A2 R.wait.length c2, .slice A3 R.due.length c3, .string R.out, .string R.inp, .int .i64 R.how, .int .i64 R.exit, .slice A4 R.snaps.length c4] 29)).alloc (.cells zeroR 29)).alloc (.cells #[.int .i64 R.proc, .int .i64 R.frame, .slice A1 R.ready.length c1, .slice A2 R.wait.length c2, .slice A3 R.due.length c3, .string R.out, .string R.inp, .int .i64 R.how, .int .i64 R.exit, .slice A4 R.snaps.length c4] 29)) (w.heap.size + 1 + 1) 29 #[.int .i64 R.proc, .int .i64 R.frame, .slice A1 R.ready.length c1, .slice A2 R.wait.length c2, .slice A3 R.due.length c3, .string R.out, .string R.inp, .int .i64 R.how, .int .i64 R.exit, .slice A4 R.snaps.length c4] := by have := Blk.new ((w.alloc (.cells #[.int .i64 R.proc, .int .i64 R.frame, .slice A1 R.ready.length c1, .slice A2 R.wait.length c2, .slice A3 R.due.length c3, .string R.out, .string R.inp, .int .i64 R.how, .int .i64 R.exit, .slice A4 R.snaps.length c4] 29)).alloc (.cells zeroR 29)) 29 #[.int .i64 R.proc, .int .i64 R.frame, .slice A1 R.ready.length c1, .slice A2 R.wait.length c2, .slice A3 R.due.length c3, .string R.out, .string R.inp, .int .i64 R.how, .int .i64 R.exit, .slice A4 R.snaps.length c4]; rw [World.size_alloc, World.size_alloc] at this; exact this
  have b0 : Blk w1 w.heap.size 29 #[.int .i64 R.proc, .int .i64 R.frame, .slice A1 R.ready.length c1, .slice A2 R.wait.length c2, .slice A3 R.due.length c3, .string R.out, .string R.inp, .int .i64 R.how, .int .i64 R.exit, .slice A4 R.snaps.length c4] := by
    rw [hw]; exact (B0.alloc _).alloc _
  have bp : Blk w1 (w.heap.size + 1) 29 zeroR := by
    rw [hw]; exact P0.alloc _
  have b3 : Blk w1 (w.heap.size + 1 + 1) 29 #[.int .i64 R.proc, .int .i64 R.frame, .slice A1 R.ready.length c1, .slice A2 R.wait.length c2, .slice A3 R.due.length c3, .string R.out, .string R.inp, .int .i64 R.how, .int .i64 R.exit, .slice A4 R.snaps.length c4] := by
    rw [hw]; exact Z0
  have x0 : Ext w w1 := by
    rw [hw]; exact Y0.alloc _
  clear hw B0 P0 Y0 Z0
  have hq : w.heap.size ≤ w.heap.size ∧ w.heap.size ≤ w.heap.size + 1 ∧ w.heap.size ≤ w.heap.size + 1 + 1 ∧ w.heap.size ≠ w.heap.size + 1 + 1 ∧ w.heap.size + 1 ≠ w.heap.size + 1 + 1 ∧ w.heap.size + 1 + 1 ≠ w.heap.size + 1 := by omega
  generalize hqb : w.heap.size = qb at *
  generalize qb + 1 = qp at *
  generalize qp + 1 = q3 at *
  obtain ⟨hq0, hq1, hq2, n1, n2, n3⟩ := hq
  have BX := Lib.hid b0
  have BP := Lib.hid bp
  have B1 := Lib.hid b3
  have X1 := Lib.hid x0
  have QB := Lib.hid hqb
  have H1 := Lib.hid h1
  have H2 := Lib.hid h2
  have H3 := Lib.hid h3
  have H4 := Lib.hid h4
  clear b0 bp b3 x0 h1 h2 h3 h4 hqb
  obtain ⟨r1, r2, r3⟩ := BX.out.rules
  obtain ⟨s1, s2, s3⟩ := B1.out.rules
  go_upto_region 3 with (at_builtin; refine wpList_append_nil rfl (.tmp 6) 22 rfl 3 iI (.int .i64 0) 1 8 Try.underlying22 hI hI0 hI1 hI2 rfl (by decide) (by decide) rfl (H1.out.ext X1.out) (fun i j => rfl) m1 ?_; intro v' u2 o2 x2; obtain ⟨B2a, d2, e2⟩ := Own.form o2; subst e2; clear r1 r2 r3 s1 s2 s3; obtain ⟨r1, r2, r3⟩ := (BX.out.ext x2).rules; obtain ⟨s1, s2, s3⟩ := (B1.out.ext x2).rules; have O2 := Lib.hid o2; have Y2 := Lib.hid x2; clear o2 x2)
  refine wp_name (fun w2 hw => ?_)
  have BX2 : Blk w2 qb 29 #[.int .i64 R.proc, .int .i64 R.frame, .slice A1 R.ready.length c1, .slice A2 R.wait.length c2, .slice A3 R.due.length c3, .string R.out, .string R.inp, .int .i64 R.how, .int .i64 R.exit, .slice A4 R.snaps.length c4] := by rw [hw]; exact (BX.out.ext Y2.out).far (p := ⟨q3, 2, none⟩) n1 _
  have BP2 : Blk w2 qp 29 zeroR := by rw [hw]; exact (BP.out.ext Y2.out).far (p := ⟨q3, 2, none⟩) n2 _
  have b2 : Blk w2 q3 29 #[.int .i64 R.proc, .int .i64 R.frame, .slice B2a R.ready.length d2, .slice A2 R.wait.length c2, .slice A3 R.due.length c3, .string R.out, .string R.inp, .int .i64 R.how, .int .i64 R.exit, .slice A4 R.snaps.length c4] := by rw [hw]; have := (B1.out.ext Y2.out).set 2 (.slice B2a R.ready.length d2); simpa using this
  have x2 : Ext w w2 := by rw [hw]; exact (X1.out.trans Y2.out).setNew (p := ⟨q3, 2, none⟩) (by rw [QB.out]; exact hq2) _
  have O2_2 : Hid (Own w2 qb 3 (.slice B2a R.ready.length d2) R.ready.length 1 (cI R.ready)) := Lib.hid (by rw [hw]; exact Own.set (Own.base O2.out (by rw [← QB.out]; exact X1.out.below.size)) (B1.out.ext Y2.out) (by decide))
  clear hw r1 r2 r3 s1 s2 s3 BX BP
  have BX := Lib.hid BX2
  have BP := Lib.hid BP2
  have B2 := Lib.hid b2
  have X2 := Lib.hid x2
  clear BX2 BP2 b2 x2
  obtain ⟨r1, r2, r3⟩ := BX.out.rules
  obtain ⟨s1, s2, s3⟩ := B2.out.rules
  go_upto_region 4 with (at_builtin; refine wpList_append_nil rfl (.tmp 10) 26 rfl 75 iW (.agg #[.int .i64 0, .int .i64 0]) 2 16 Try.underlying26 hW hW0 hW1 hW2 rfl (by decide) (by decide) rfl (H2.out.ext X2.out) (fun i j => by unfold cWs cW; split <;> rfl) m2 ?_; intro v' u3 o2 x2; obtain ⟨B3a, d3, e2⟩ := Own.form o2; subst e2; clear r1 r2 r3 s1 s2 s3; obtain ⟨r1, r2, r3⟩ := (BX.out.ext x2).rules; obtain ⟨s1, s2, s3⟩ := (B2.out.ext x2).rules; have O3 := Lib.hid o2; have Y3 := Lib.hid x2; clear o2 x2)
  refine wp_name (fun w3 hw => ?_)
  have BX3 : Blk w3 qb 29 #[.int .i64 R.proc, .int .i64 R.frame, .slice A1 R.ready.length c1, .slice A2 R.wait.length c2, .slice A3 R.due.length c3, .string R.out, .string R.inp, .int .i64 R.how, .int .i64 R.exit, .slice A4 R.snaps.length c4] := by rw [hw]; exact (BX.out.ext Y3.out).far (p := ⟨q3, 3, none⟩) n1 _
  have BP3 : Blk w3 qp 29 zeroR := by rw [hw]; exact (BP.out.ext Y3.out).far (p := ⟨q3, 3, none⟩) n2 _
  have b3 : Blk w3 q3 29 #[.int .i64 R.proc, .int .i64 R.frame, .slice B2a R.ready.length d2, .slice B3a R.wait.length d3, .slice A3 R.due.length c3, .string R.out, .string R.inp, .int .i64 R.how, .int .i64 R.exit, .slice A4 R.snaps.length c4] := by rw [hw]; have := (B2.out.ext Y3.out).set 3 (.slice B3a R.wait.length d3); simpa using this
  have x3 : Ext w w3 := by rw [hw]; exact (X2.out.trans Y3.out).setNew (p := ⟨q3, 3, none⟩) (by rw [QB.out]; exact hq2) _
  have O2_3 : Hid (Own w3 qb 3 (.slice B2a R.ready.length d2) R.ready.length 1 (cI R.ready)) := Lib.hid (by rw [hw]; exact Own.set (O2_2.out.ext Y3.out) (B2.out.ext Y3.out) (by decide))
  have O3_3 : Hid (Own w3 qb 75 (.slice B3a R.wait.length d3) R.wait.length 2 (cWs R.wait)) := Lib.hid (by rw [hw]; exact Own.set (Own.base O3.out (by rw [← QB.out]; exact X2.out.below.size)) (B2.out.ext Y3.out) (by decide))
  clear hw r1 r2 r3 s1 s2 s3 BX BP
  have BX := Lib.hid BX3
  have BP := Lib.hid BP3
  have B3 := Lib.hid b3
  have X3 := Lib.hid x3
  clear BX3 BP3 b3 x3
  obtain ⟨r1, r2, r3⟩ := BX.out.rules
  obtain ⟨s1, s2, s3⟩ := B3.out.rules
  go_upto_region 5 with (at_builtin; refine wpList_append_nil rfl (.tmp 14) 22 rfl 3 iI (.int .i64 0) 1 8 Try.underlying22 hI hI0 hI1 hI2 rfl (by decide) (by decide) rfl (H3.out.ext X3.out) (fun i j => rfl) m3 ?_; intro v' u4 o2 x2; obtain ⟨B4a, d4, e2⟩ := Own.form o2; subst e2; clear r1 r2 r3 s1 s2 s3; obtain ⟨r1, r2, r3⟩ := (BX.out.ext x2).rules; obtain ⟨s1, s2, s3⟩ := (B3.out.ext x2).rules; have O4 := Lib.hid o2; have Y4 := Lib.hid x2; clear o2 x2)
  refine wp_name (fun w4 hw => ?_)
  have BX4 : Blk w4 qb 29 #[.int .i64 R.proc, .int .i64 R.frame, .slice A1 R.ready.length c1, .slice A2 R.wait.length c2, .slice A3 R.due.length c3, .string R.out, .string R.inp, .int .i64 R.how, .int .i64 R.exit, .slice A4 R.snaps.length c4] := by rw [hw]; exact (BX.out.ext Y4.out).far (p := ⟨q3, 4, none⟩) n1 _
  have BP4 : Blk w4 qp 29 zeroR := by rw [hw]; exact (BP.out.ext Y4.out).far (p := ⟨q3, 4, none⟩) n2 _
  have b4 : Blk w4 q3 29 #[.int .i64 R.proc, .int .i64 R.frame, .slice B2a R.ready.length d2, .slice B3a R.wait.length d3, .slice B4a R.due.length d4, .string R.out, .string R.inp, .int .i64 R.how, .int .i64 R.exit, .slice A4 R.snaps.length c4] := by rw [hw]; have := (B3.out.ext Y4.out).set 4 (.slice B4a R.due.length d4); simpa using this
  have x4 : Ext w w4 := by rw [hw]; exact (X3.out.trans Y4.out).setNew (p := ⟨q3, 4, none⟩) (by rw [QB.out]; exact hq2) _
  have AP := Lib.hid (Own.apart O4.out (O2_3.out))
  have O2_4 : Hid (Own w4 qb 3 (.slice B2a R.ready.length d2) R.ready.length 1 (cI R.ready)) := Lib.hid (by rw [hw]; exact Own.set (O2_3.out.ext Y4.out) (B3.out.ext Y4.out) (by decide))
  have O3_4 : Hid (Own w4 qb 75 (.slice B3a R.wait.length d3) R.wait.length 2 (cWs R.wait)) := Lib.hid (by rw [hw]; exact Own.set (O3_3.out.ext Y4.out) (B3.out.ext Y4.out) (by decide))
  have O4_4 : Hid (Own w4 qb 3 (.slice B4a R.due.length d4) R.due.length 1 (cI R.due)) := Lib.hid (by rw [hw]; exact Own.set (Own.base O4.out (by rw [← QB.out]; exact X3.out.below.size)) (B3.out.ext Y4.out) (by decide))
  clear hw r1 r2 r3 s1 s2 s3 BX BP
  have BX := Lib.hid BX4
  have BP := Lib.hid BP4
  have B4 := Lib.hid b4
  have X4 := Lib.hid x4
  clear BX4 BP4 b4 x4
  obtain ⟨r1, r2, r3⟩ := BX.out.rules
  obtain ⟨s1, s2, s3⟩ := B4.out.rules
  go_upto_region 6 with (at_builtin; refine wpList_append_nil rfl (.tmp 18) 27 rfl 9 iS (.string ⟨#[]⟩) 1 16 Try.underlying27 hS hS0 hS1 hS2 rfl (by decide) (by decide) rfl (H4.out.ext X4.out) (fun i j => rfl) m4 ?_; intro v' u5 o2 x2; obtain ⟨B5a, d5, e2⟩ := Own.form o2; subst e2; clear r1 r2 r3 s1 s2 s3; obtain ⟨r1, r2, r3⟩ := (BX.out.ext x2).rules; obtain ⟨s1, s2, s3⟩ := (B4.out.ext x2).rules; have O5 := Lib.hid o2; have Y5 := Lib.hid x2; clear o2 x2)
  refine wp_name (fun w5 hw => ?_)
  have BX5 : Blk w5 qb 29 #[.int .i64 R.proc, .int .i64 R.frame, .slice A1 R.ready.length c1, .slice A2 R.wait.length c2, .slice A3 R.due.length c3, .string R.out, .string R.inp, .int .i64 R.how, .int .i64 R.exit, .slice A4 R.snaps.length c4] := by rw [hw]; exact (BX.out.ext Y5.out).far (p := ⟨q3, 9, none⟩) n1 _
  have BP5 : Blk w5 qp 29 zeroR := by rw [hw]; exact (BP.out.ext Y5.out).far (p := ⟨q3, 9, none⟩) n2 _
  have b5 : Blk w5 q3 29 #[.int .i64 R.proc, .int .i64 R.frame, .slice B2a R.ready.length d2, .slice B3a R.wait.length d3, .slice B4a R.due.length d4, .string R.out, .string R.inp, .int .i64 R.how, .int .i64 R.exit, .slice B5a R.snaps.length d5] := by rw [hw]; have := (B4.out.ext Y5.out).set 9 (.slice B5a R.snaps.length d5); simpa using this
  have x5 : Ext w w5 := by rw [hw]; exact (X4.out.trans Y5.out).setNew (p := ⟨q3, 9, none⟩) (by rw [QB.out]; exact hq2) _
  have O2_5 : Hid (Own w5 qb 3 (.slice B2a R.ready.length d2) R.ready.length 1 (cI R.ready)) := Lib.hid (by rw [hw]; exact Own.set (O2_4.out.ext Y5.out) (B4.out.ext Y5.out) (by decide))
  have O3_5 : Hid (Own w5 qb 75 (.slice B3a R.wait.length d3) R.wait.length 2 (cWs R.wait)) := Lib.hid (by rw [hw]; exact Own.set (O3_4.out.ext Y5.out) (B4.out.ext Y5.out) (by decide))
  have O4_5 : Hid (Own w5 qb 3 (.slice B4a R.due.length d4) R.due.length 1 (cI R.due)) := Lib.hid (by rw [hw]; exact Own.set (O4_4.out.ext Y5.out) (B4.out.ext Y5.out) (by decide))
  have O5_5 : Hid (Own w5 qb 9 (.slice B5a R.snaps.length d5) R.snaps.length 1 (cS R.snaps)) := Lib.hid (by rw [hw]; exact Own.set (Own.base O5.out (by rw [← QB.out]; exact X4.out.below.size)) (B4.out.ext Y5.out) (by decide))
  clear hw r1 r2 r3 s1 s2 s3 BX BP
  have BX := Lib.hid BX5
  have BP := Lib.hid BP5
  have B5 := Lib.hid b5
  have X5 := Lib.hid x5
  clear BX5 BP5 b5 x5
  obtain ⟨s1, s2, s3⟩ := B5.out.rules
  obtain ⟨p1, p2, p3⟩ := BP.out.rules
  unfold zeroR at p1
  have hpw : w.heap.size ≤ qp := by rw [QB.out]; exact hq1
  clear BX
  go_wp2_with fail
  refine bodyPost_ret (v := .agg (cellsR R (.slice B2a R.ready.length d2) (.slice B3a R.wait.length d3) (.slice B4a R.due.length d4) (.slice B5a R.snaps.length d5))) (by simp [results, Try.results85, go_sem, p1, cellsR]) rfl ?_
  have XF := ext10 X5.out hpw (.int .i64 R.proc) (.int .i64 R.frame) (.slice B2a R.ready.length d2) (.slice B3a R.wait.length d3) (.slice B4a R.due.length d4) (.string R.out) (.string R.inp) (.int .i64 R.how) (.int .i64 R.exit) (.slice B5a R.snaps.length d5)
  rw [QB.out]
  refine ⟨⟨_, _, _, _, rfl, AP.out.symm, ?_, ?_, ?_, ?_⟩, XF⟩
  · exact O2_5.out.r10 BP.out (by decide) _ _ _ _ _ _ _ _ _ _
  · exact O3_5.out.r10 BP.out (by decide) _ _ _ _ _ _ _ _ _ _
  · exact O4_5.out.r10 BP.out (by decide) _ _ _ _ _ _ _ _ _ _
  · exact O5_5.out.r10 BP.out (by decide) _ _ _ _ _ _ _ _ _ _
end
end Go.Proofs.Ytadhkmplhgcgkaa.World
namespace Go.Proofs.Ytadhkmplhgcgkaa.World
open Go.RowKit Go.Proofs.Ytadhkmplhgcgkaa.Plain
set_option linter.unusedVariables false
attribute [local go_sem ↓] Go.wp_at_zero Go.wp_at_succ
theorem infoB' : (Try.prog.info? 4).map (fun i => (i.zero, i.size, i.bytes)) = some (some (.bool false), 1, 1) := by kernel_rfl
theorem infoV' : (Try.prog.info? 37).map (fun i => (i.zero, i.size, i.bytes)) = some (some (.agg #[.bool false, .int .i64 0]), 2, 16) := by kernel_rfl
def OwnD (w : World) (base : Nat) (W : PW) (v : Value) : Prop := Own w base 4 v W.dead.length 1 (cB W.dead)
structure CJ (w0 : World) (q pb : Nat) (W : PW) (vL vD re wa du sn : Value) (L : Nat → Bool) (s : Nat → Value) (w : World) : Prop where
  x : Ext w0 w
  bx : Blk w q 31 (cellsC W vL vD re wa du sn)
  bp : Blk w pb 31 zeroW
  k10 : L 10 = true → L 9 = true
  p0 : L 0 = true → s 6 = .pointer (some ⟨q, 1, none⟩)
  l1 : L 1 = true → s 7 = vD
  a2 : L 2 = true → OwnD w w0.heap.size W (s 8)
  p3 : L 3 = true → s 9 = .pointer (some ⟨q, 2, none⟩)
  l4 : L 4 = true → s 10 = .int .i64 W.last
  p5 : L 5 = true → s 11 = .pointer (some ⟨q, 3, none⟩)
  l6 : L 6 = true → s 12 = .agg (cellsR W.R re wa du sn)
  c7 : L 7 = true → ∃ re' wa' du' sn', s 13 = .agg (cellsR W.R re' wa' du' sn') ∧ RegsNew w w0.heap.size W.R re' wa' du' sn'
  b8 : L 8 = true → ∃ vD' re' wa' du' sn', s 14 = .agg (cellsC W (.slice none 0 0) vD' re' wa' du' sn') ∧ OwnD w w0.heap.size W vD' ∧ RegsNew w w0.heap.size W.R re' wa' du' sn'
  a9 : L 9 = true → L 10 = false → ∃ ob, s 3 = .pointer (some ⟨ob, 0, none⟩) ∧ w0.heap.size ≤ ob ∧ ob ≠ q ∧ ob ≠ pb ∧ Blk w ob 31 zeroW
  e10 : L 10 = true → ∃ ob vD' re' wa' du' sn', s 3 = .pointer (some ⟨ob, 0, none⟩) ∧ w0.heap.size ≤ ob ∧ ob ≠ q ∧ ob ≠ pb ∧ Blk w ob 31 (cellsC W (.slice none 0 0) vD' re' wa' du' sn') ∧ OwnD w w0.heap.size W vD' ∧ RegsNew w w0.heap.size W.R re' wa' du' sn'
theorem OwnD.ext {w w' : World} {base : Nat} {W : PW} {v : Value} (h : OwnD w base W v) (x : Ext w w') : OwnD w' base W v := Own.ext h x
theorem OwnD.kt {w w' : World} {base : Nat} {W : PW} {v : Value} {ts : List TypeId} (h : OwnD w base W v) (k : KT ts w w') (hn : 4 ∉ ts) : OwnD w' base W v := Own.kt h k hn
theorem CJ.ext {w0 w w' : World} {q pb : Nat} {W : PW} {vL vD re wa du sn : Value} {L : Nat → Bool} {s : Nat → Value} (I : CJ w0 q pb W vL vD re wa du sn L s w) (y : Ext w w') : CJ w0 q pb W vL vD re wa du sn L s w' := by
  refine ⟨I.x.trans y, I.bx.ext y, I.bp.ext y, I.k10, I.p0, I.l1, fun h => (I.a2 h).ext y, I.p3, I.l4, I.p5, I.l6, fun h => ?_, fun h => ?_, fun h h' => ?_, fun h => ?_⟩
  · obtain ⟨r, w1, d, n, e, N⟩ := I.c7 h; exact ⟨r, w1, d, n, e, N.ext y⟩
  · obtain ⟨v, r, w1, d, n, e, D, N⟩ := I.b8 h; exact ⟨v, r, w1, d, n, e, D.ext y, N.ext y⟩
  · obtain ⟨ob, e, h1, h2, h3, h4⟩ := I.a9 h h'; exact ⟨ob, e, h1, h2, h3, h4.ext y⟩
  · obtain ⟨ob, v, r, w1, d, n, e, h1, h2, h3, h4, D, N⟩ := I.e10 h; exact ⟨ob, v, r, w1, d, n, e, h1, h2, h3, h4.ext y, D.ext y, N.ext y⟩
def frameJ (W : PW) (vL vD re wa du sn : Value) (q pb : Nat) (s : Nat → Value) : Act := { tmps := #[.agg (cellsC W vL vD re wa du sn), .pointer (some ⟨q, 0, none⟩), .pointer (some ⟨pb, 0, none⟩), s 3, undef, undef, s 6, s 7, s 8, s 9, s 10, s 11, s 12, s 13, s 14, undef, undef, undef, undef, undef, undef, undef, undef, undef, undef, undef, undef, undef, undef, undef, undef, undef, undef, undef, undef, undef, undef, undef], defers := [] }
def CJnv (w0 : World) (q pb : Nat) (W : PW) (vL vD re wa du sn : Value) (listed : Array Bool) (a : Act) (w : World) : Prop :=
  ∃ L : Nat → Bool, (∀ k, listed.getD k false = L k) ∧ ∃ s : Nat → Value, a = frameJ W vL vD re wa du sn q pb s ∧ listed.size = 11 ∧ CJ w0 q pb W vL vD re wa du sn L s w
section
variable {w : World} {x : WV} {W : PW}
set_option maxRecDepth 100000 in
set_option maxHeartbeats 8000000 in
theorem rcopy (h : WorldAt w x W) (m0 : W.L.length ≤ 1000000) (m5 : W.dead.length ≤ 1000000) (m1 : W.R.ready.length ≤ 1000000) (m2 : W.R.wait.length ≤ 1000000) (m3 : W.R.due.length ≤ 1000000) (m4 : W.R.snaps.length ≤ 1000000) (m6 : ∀ i, i < W.L.length → (tAt W.L i).F.length ≤ 1000000) :
    Calls Try.prog 43 #[.agg (cellsW W x)] w fun e w' => (∃ x', e = .returned (.agg (cellsW W x')) ∧ NewW w' w.heap.size W x') ∧ Ext w w' := by
  have HH := Lib.hid h
  obtain ⟨vL, fs, vD, vRe, vWa, vDu, vSn⟩ := x
  obtain ⟨A1, c1, e1, l1, l1'⟩ := h.L.row.form
  have e1 : vL = .slice A1 W.L.length c1 := e1
  subst e1
  obtain ⟨A2, c2, e2, l2, l2'⟩ := Row.form h.dead
  have e2 : vD = .slice A2 W.dead.length c2 := e2
  subst e2
  obtain ⟨A3, c3, e3, l3, l3'⟩ := Row.form h.ready
  have e3 : vRe = .slice A3 W.R.ready.length c3 := e3
  subst e3
  obtain ⟨A4, c4, e4, l4, l4'⟩ := Row.form h.wait
  have e4 : vWa = .slice A4 W.R.wait.length c4 := e4
  subst e4
  obtain ⟨A5, c5, e5, l5, l5'⟩ := Row.form h.due
  have e5 : vDu = .slice A5 W.R.due.length c5 := e5
  subst e5
  obtain ⟨A6, c6, e6, l6, l6'⟩ := Row.form h.snaps
  have e6 : vSn = .slice A6 W.R.snaps.length c6 := e6
  subst e6
  have CR := Lib.hid (fun w' (e : Ext w w') => rcopyRegs (R := W.R) (h.ready.ext e) (h.wait.ext e) (h.due.ext e) (h.snaps.ext e) m1 m2 m3 m4)
  unfold cellsR at CR
  have hDead := Lib.hid h.dead
  clear h
  unfold cellsW
  go_enter Try.func43, Try.ntmps43
  go_wp2_with fail
  refine wp_name (fun W1 hW => ?_)
  have BX : Blk W1 w.heap.size 31 (cellsW W ⟨.slice A1 W.L.length c1, fs, .slice A2 W.dead.length c2, .slice A3 W.R.ready.length c3, .slice A4 W.R.wait.length c4, .slice A5 W.R.due.length c5, .slice A6 W.R.snaps.length c6⟩) := (Blk.new w _ _).alloc' hW
  have BP := Blk.new' hW
  have X1 := ((Ext.refl w).alloc _).alloc' hW
  simp only [World.size_alloc] at BP
  clear hW
  have hqp : w.heap.size ≤ w.heap.size ∧ w.heap.size ≤ w.heap.size + 1 := by omega
  have LQ := BX.lt
  have LP := BP.lt
  generalize hq : w.heap.size = q at *
  have hqw : w.heap.size ≤ q := by omega
  have hpbw : w.heap.size ≤ q + 1 := by omega
  clear hq
  have hpb : q + 1 ≠ q := by omega
  generalize q + 1 = pb at *
  obtain ⟨iB, hB, hB0, hB1, hB2⟩ := info_parts infoB'
  refine wp_region_inv (Inv := CJnv w q pb W (.slice A1 W.L.length c1) (.slice A2 W.dead.length c2) (.slice A3 W.R.ready.length c3) (.slice A4 W.R.wait.length c4) (.slice A5 W.R.due.length c5) (.slice A6 W.R.snaps.length c6)) (by kernel_rfl) ?_ ?_ ?_
  · refine ⟨fun _ => false, fun k => ?_, fun _ => undef, rfl, by simp, ⟨X1.drew, BX.drew, BP.drew, ?_, ?_, ?_, ?_, ?_, ?_, ?_, ?_, ?_, ?_, ?_, ?_⟩⟩
    · rw [Array.getD_eq_getD_getElem?, Array.getElem?_replicate]; split <;> rfl
    all_goals (intro h; cases h)
  · rintro listed a w2 i ⟨L, hL, s, rfl, hsz, I⟩ hi
    obtain ⟨hlt, hnot, hdep⟩ := (ready_iff _ _).1 hi
    have hi12 : i < 11 := hlt
    have cases12 : i = 0 ∨ i = 1 ∨ i = 2 ∨ i = 3 ∨ i = 4 ∨ i = 5 ∨ i = 6 ∨ i = 7 ∨ i = 8 ∨ i = 9 ∨ i = 10 := by omega
    have hn0 : L i = false := by rw [← hL i]; exact not_bit hnot
    have R1 := Lib.hid I.bx.cell
    have hw0 := I.x.below.size
    have lq := I.bx.lt
    have lp := I.bp.lt
    clear hi hlt hi12 hnot
    unfold frameJ
    rcases cases12 with rfl | rfl | rfl | rfl | rfl | rfl | rfl | rfl | rfl | rfl | rfl
    · -- operation 0
      refine wpOp_step rfl (fun K' hK => ?_)
      go_simp
      exact hK _ _ ⟨_, bit_set hL hsz 0 (by omega), fun j => if j = 6 then .pointer (some ⟨q, 1, none⟩) else s j, by simp [frameJ], by simpa using hsz, ⟨I.x, I.bx, I.bp, I.k10, fun _ => rfl, I.l1, I.a2, I.p3, I.l4, I.p5, I.l6, I.c7, I.b8, I.a9, I.e10⟩⟩
    · -- operation 1
      simp [hL, Region.binds] at hdep
      have d0 : L 0 = true := by simp [hdep]
      have es := I.p0 d0
      have hc : w2.cell? ⟨q, 1, none⟩ = some (.slice A2 W.dead.length c2) := R1.out 1
      refine wpOp_step rfl (fun K' hK => ?_)
      rw [es]
      go_simp
      exact hK _ _ ⟨_, bit_set hL hsz 1 (by omega), fun j => if j = 7 then .slice A2 W.dead.length c2 else s j, by simp [frameJ, es], by simpa using hsz, ⟨I.x, I.bx, I.bp, I.k10, I.p0, fun _ => rfl, I.a2, I.p3, I.l4, I.p5, I.l6, I.c7, I.b8, I.a9, I.e10⟩⟩
    · -- operation 2
      simp [hL, Region.binds] at hdep
      have d1 : L 1 = true := by simp [hdep]
      have es := I.l1 d1
      refine wpOp_step rfl (fun K' hK => ?_)
      rw [es]
      refine wp_append_nil (.tmp 7) 25 rfl 4 iB (.bool false) 1 1 Try.underlying25 hB hB0 hB1 hB2 rfl (by decide) (by decide) rfl (Row.ext hDead.out I.x) (fun i j => rfl) m5 ?_
      intro v' w3 o3 x3
      obtain ⟨ab, cb, eb⟩ := Own.form o3
      subst eb
      have J := I.ext x3
      exact hK _ _ ⟨_, bit_set hL hsz 2 (by omega), fun j => if j = 8 then .slice ab W.dead.length cb else s j, by simp [frameJ, es, Act.put], by simpa using hsz, ⟨J.x, J.bx, J.bp, J.k10, J.p0, J.l1, (fun _ => Own.base o3 hw0), J.p3, J.l4, J.p5, J.l6, J.c7, J.b8, J.a9, J.e10⟩⟩
    · -- operation 3
      refine wpOp_step rfl (fun K' hK => ?_)
      go_simp
      exact hK _ _ ⟨_, bit_set hL hsz 3 (by omega), fun j => if j = 9 then .pointer (some ⟨q, 2, none⟩) else s j, by simp [frameJ], by simpa using hsz, ⟨I.x, I.bx, I.bp, I.k10, I.p0, I.l1, I.a2, fun _ => rfl, I.l4, I.p5, I.l6, I.c7, I.b8, I.a9, I.e10⟩⟩
    · -- operation 4
      simp [hL, Region.binds] at hdep
      have d3 : L 3 = true := by simp [hdep]
      have es := I.p3 d3
      have hc : w2.cell? ⟨q, 2, none⟩ = some (.int .i64 W.last) := R1.out 2
      refine wpOp_step rfl (fun K' hK => ?_)
      rw [es]
      go_simp
      exact hK _ _ ⟨_, bit_set hL hsz 4 (by omega), fun j => if j = 10 then .int .i64 W.last else s j, by simp [frameJ, es], by simpa using hsz, ⟨I.x, I.bx, I.bp, I.k10, I.p0, I.l1, I.a2, I.p3, fun _ => rfl, I.p5, I.l6, I.c7, I.b8, I.a9, I.e10⟩⟩
    · -- operation 5
      refine wpOp_step rfl (fun K' hK => ?_)
      go_simp
      exact hK _ _ ⟨_, bit_set hL hsz 5 (by omega), fun j => if j = 11 then .pointer (some ⟨q, 3, none⟩) else s j, by simp [frameJ], by simpa using hsz, ⟨I.x, I.bx, I.bp, I.k10, I.p0, I.l1, I.a2, I.p3, I.l4, fun _ => rfl, I.l6, I.c7, I.b8, I.a9, I.e10⟩⟩
    · -- operation 6
      simp [hL, Region.binds] at hdep
      have d5 : L 5 = true := by simp [hdep]
      have es := I.p5 d5
      have hc0 : w2.cell? ⟨q, 3, none⟩ = some (.int .i64 W.R.proc) := R1.out 3
      have hc1 : w2.cell? ⟨q, 3 + 1, none⟩ = some (.int .i64 W.R.frame) := R1.out 4
      have hc2 : w2.cell? ⟨q, 3 + 2, none⟩ = some (.slice A3 W.R.ready.length c3) := R1.out 5
      have hc3 : w2.cell? ⟨q, 3 + 3, none⟩ = some (.slice A4 W.R.wait.length c4) := R1.out 6
      have hc4 : w2.cell? ⟨q, 3 + 4, none⟩ = some (.slice A5 W.R.due.length c5) := R1.out 7
      have hc5 : w2.cell? ⟨q, 3 + 5, none⟩ = some (.string W.R.out) := R1.out 8
      have hc6 : w2.cell? ⟨q, 3 + 6, none⟩ = some (.string W.R.inp) := R1.out 9
      have hc7 : w2.cell? ⟨q, 3 + 7, none⟩ = some (.int .i64 W.R.how) := R1.out 10
      have hc8 : w2.cell? ⟨q, 3 + 8, none⟩ = some (.int .i64 W.R.exit) := R1.out 11
      have hc9 : w2.cell? ⟨q, 3 + 9, none⟩ = some (.slice A6 W.R.snaps.length c6) := R1.out 12
      simp only [Nat.reduceAdd] at hc1 hc2 hc3 hc4 hc5 hc6 hc7 hc8 hc9
      refine wpOp_step rfl (fun K' hK => ?_)
      rw [es]
      go_simp
      exact hK _ _ ⟨_, bit_set hL hsz 6 (by omega), fun j => if j = 12 then .agg (cellsR W.R (.slice A3 W.R.ready.length c3) (.slice A4 W.R.wait.length c4) (.slice A5 W.R.due.length c5) (.slice A6 W.R.snaps.length c6)) else s j, by simp [frameJ, es, cellsR], by simpa using hsz, ⟨I.x, I.bx, I.bp, I.k10, I.p0, I.l1, I.a2, I.p3, I.l4, I.p5, fun _ => rfl, I.c7, I.b8, I.a9, I.e10⟩⟩
    · -- operation 7
      simp [hL, Region.binds] at hdep
      have d6 : L 6 = true := by simp [hdep]
      have es := I.l6 d6
      refine wpOp_step rfl (fun K' hK => ?_)
      rw [es]
      unfold cellsR
      go_simp
      refine (CR.out _ I.x).mono ?_
      rintro e w3 ⟨⟨re', wa', du', sn', rfl, NR⟩, x3⟩
      have J := I.ext x3
      exact hK _ _ ⟨_, bit_set hL hsz 7 (by omega), fun j => if j = 13 then .agg (cellsR W.R re' wa' du' sn') else s j, by simp [frameJ, es, cellsR], by simpa using hsz, ⟨J.x, J.bx, J.bp, J.k10, J.p0, J.l1, J.a2, J.p3, J.l4, J.p5, J.l6, (fun _ => ⟨re', wa', du', sn', rfl, NR.base hw0⟩), J.b8, J.a9, J.e10⟩⟩
    · -- operation 8
      simp [hL, Region.binds] at hdep
      have d2 : L 2 = true := by simp [hdep]
      have d4 : L 4 = true := by simp [hdep]
      have d7 : L 7 = true := by simp [hdep]
      have OD := I.a2 d2
      obtain ⟨ab, cb, e3⟩ := Own.form OD
      rw [e3] at OD
      have e5 := I.l4 d4
      obtain ⟨re', wa', du', sn', e8, N8⟩ := I.c7 d7
      obtain ⟨a1, k1, v1⟩ := N8.re.form
      obtain ⟨a2, k2, v2⟩ := N8.wa.form
      obtain ⟨a3, k3, v3⟩ := N8.du.form
      obtain ⟨a4, k4, v4⟩ := N8.sn.form
      subst v1 v2 v3 v4
      refine wpOp_step rfl (fun K' hK => ?_)
      rw [e3, e5, e8]
      unfold cellsR
      go_simp
      exact hK _ _ ⟨_, bit_set hL hsz 8 (by omega), fun j => if j = 14 then .agg (cellsC W (.slice none 0 0) (.slice ab W.dead.length cb) (.slice a1 W.R.ready.length k1) (.slice a2 W.R.wait.length k2) (.slice a3 W.R.due.length k3) (.slice a4 W.R.snaps.length k4)) else s j, by simp [frameJ, e3, e5, e8, cellsC, cellsR], by simpa using hsz, ⟨I.x, I.bx, I.bp, I.k10, I.p0, I.l1, I.a2, I.p3, I.l4, I.p5, I.l6, I.c7, (fun _ => ⟨_, _, _, _, _, rfl, OD, N8⟩), I.a9, I.e10⟩⟩
    · -- operation 9
      refine wpOp_step rfl (fun K' hK => ?_)
      go_simp
      have J := I.ext ((Ext.refl w2).alloc (.cells zeroW 31))
      exact hK _ _ ⟨_, bit_set hL hsz 9 (by omega), fun j => if j = 3 then .pointer (some ⟨w2.heap.size, 0, none⟩) else s j, by simp [frameJ], by simpa using hsz, ⟨J.x, J.bx, J.bp, fun _ => rfl, J.p0, J.l1, J.a2, J.p3, J.l4, J.p5, J.l6, J.c7, J.b8, (fun _ _ => ⟨w2.heap.size, rfl, hw0, by omega, by omega, Blk.new _ _ _⟩), (fun h => absurd (I.k10 h) (by rw [hn0]; decide))⟩⟩
    · -- operation 10
      simp [hL, Region.binds] at hdep
      have d9 : L 9 = true := by simp [hdep]
      have d8 : L 8 = true := by simp [hdep]
      obtain ⟨ob, e3, hb3, ne1, ne2, B3⟩ := I.a9 d9 hn0
      obtain ⟨vD', re', wa', du', sn', e14, D15, N15⟩ := I.b8 d8
      obtain ⟨ab, cb, eD⟩ := Own.form D15
      obtain ⟨a1, k1, v1⟩ := N15.re.form
      obtain ⟨a2, k2, v2⟩ := N15.wa.form
      obtain ⟨a3, k3, v3⟩ := N15.du.form
      obtain ⟨a4, k4, v4⟩ := N15.sn.form
      subst v1 v2 v3 v4 eD
      have z0 : w2.cell? ⟨ob, 0, none⟩ = zeroW[0]? := B3.cell 0
      have z1 : w2.cell? ⟨ob, 1, none⟩ = zeroW[1]? := B3.cell 1
      have z2 : w2.cell? ⟨ob, 2, none⟩ = zeroW[2]? := B3.cell 2
      have z3 : w2.cell? ⟨ob, 3, none⟩ = zeroW[3]? := B3.cell 3
      have z4 : w2.cell? ⟨ob, 4, none⟩ = zeroW[4]? := B3.cell 4
      have z5 : w2.cell? ⟨ob, 5, none⟩ = zeroW[5]? := B3.cell 5
      have z6 : w2.cell? ⟨ob, 6, none⟩ = zeroW[6]? := B3.cell 6
      have z7 : w2.cell? ⟨ob, 7, none⟩ = zeroW[7]? := B3.cell 7
      have z8 : w2.cell? ⟨ob, 8, none⟩ = zeroW[8]? := B3.cell 8
      have z9 : w2.cell? ⟨ob, 9, none⟩ = zeroW[9]? := B3.cell 9
      have z10 : w2.cell? ⟨ob, 10, none⟩ = zeroW[10]? := B3.cell 10
      have z11 : w2.cell? ⟨ob, 11, none⟩ = zeroW[11]? := B3.cell 11
      have z12 : w2.cell? ⟨ob, 12, none⟩ = zeroW[12]? := B3.cell 12
      simp [zeroW] at z0 z1 z2 z3 z4 z5 z6 z7 z8 z9 z10 z11 z12
      have zf := B3.frozen
      have zl := B3.lt
      refine wpOp_step rfl (fun K' hK => ?_)
      rw [e3, e14]
      unfold cellsC
      go_simp
      have KE := (((((((((((((Keep.refl (· = ob) w2).setCell (p := ⟨ob, 0, none⟩) rfl (.slice none 0 0)).setCell (p := ⟨ob, 1, none⟩) rfl (.slice ab W.dead.length cb)).setCell (p := ⟨ob, 2, none⟩) rfl (.int .i64 W.last)).setCell (p := ⟨ob, 3, none⟩) rfl (.int .i64 W.R.proc)).setCell (p := ⟨ob, 4, none⟩) rfl (.int .i64 W.R.frame)).setCell (p := ⟨ob, 5, none⟩) rfl (.slice a1 W.R.ready.length k1)).setCell (p := ⟨ob, 6, none⟩) rfl (.slice a2 W.R.wait.length k2)).setCell (p := ⟨ob, 7, none⟩) rfl (.slice a3 W.R.due.length k3)).setCell (p := ⟨ob, 8, none⟩) rfl (.string W.R.out)).setCell (p := ⟨ob, 9, none⟩) rfl (.string W.R.inp)).setCell (p := ⟨ob, 10, none⟩) rfl (.int .i64 W.R.how)).setCell (p := ⟨ob, 11, none⟩) rfl (.int .i64 W.R.exit)).setCell (p := ⟨ob, 12, none⟩) rfl (.slice a4 W.R.snaps.length k4)
      have BE := (((((((((((((B3).set 0 (.slice none 0 0)).set 1 (.slice ab W.dead.length cb)).set 2 (.int .i64 W.last)).set 3 (.int .i64 W.R.proc)).set 4 (.int .i64 W.R.frame)).set 5 (.slice a1 W.R.ready.length k1)).set 6 (.slice a2 W.R.wait.length k2)).set 7 (.slice a3 W.R.due.length k3)).set 8 (.string W.R.out)).set 9 (.string W.R.inp)).set 10 (.int .i64 W.R.how)).set 11 (.int .i64 W.R.exit)).set 12 (.slice a4 W.R.snaps.length k4)
      have XE := (((((((((((((I.x).setNew (p := ⟨ob, 0, none⟩) hb3 (.slice none 0 0)).setNew (p := ⟨ob, 1, none⟩) hb3 (.slice ab W.dead.length cb)).setNew (p := ⟨ob, 2, none⟩) hb3 (.int .i64 W.last)).setNew (p := ⟨ob, 3, none⟩) hb3 (.int .i64 W.R.proc)).setNew (p := ⟨ob, 4, none⟩) hb3 (.int .i64 W.R.frame)).setNew (p := ⟨ob, 5, none⟩) hb3 (.slice a1 W.R.ready.length k1)).setNew (p := ⟨ob, 6, none⟩) hb3 (.slice a2 W.R.wait.length k2)).setNew (p := ⟨ob, 7, none⟩) hb3 (.slice a3 W.R.due.length k3)).setNew (p := ⟨ob, 8, none⟩) hb3 (.string W.R.out)).setNew (p := ⟨ob, 9, none⟩) hb3 (.string W.R.inp)).setNew (p := ⟨ob, 10, none⟩) hb3 (.int .i64 W.R.how)).setNew (p := ⟨ob, 11, none⟩) hb3 (.int .i64 W.R.exit)).setNew (p := ⟨ob, 12, none⟩) hb3 (.slice a4 W.R.snaps.length k4)
      have KT1 : KT [31] w2 _ := Keep.mono KE (fun j e => by subst e; exact ⟨_, _, by simp, B3⟩)
      have eC : (((((((((((((zeroW).setIfInBounds 0 (.slice none 0 0)).setIfInBounds 1 (.slice ab W.dead.length cb)).setIfInBounds 2 (.int .i64 W.last)).setIfInBounds 3 (.int .i64 W.R.proc)).setIfInBounds 4 (.int .i64 W.R.frame)).setIfInBounds 5 (.slice a1 W.R.ready.length k1)).setIfInBounds 6 (.slice a2 W.R.wait.length k2)).setIfInBounds 7 (.slice a3 W.R.due.length k3)).setIfInBounds 8 (.string W.R.out)).setIfInBounds 9 (.string W.R.inp)).setIfInBounds 10 (.int .i64 W.R.how)).setIfInBounds 11 (.int .i64 W.R.exit)).setIfInBounds 12 (.slice a4 W.R.snaps.length k4) = cellsC W (.slice none 0 0) (.slice ab W.dead.length cb) (.slice a1 W.R.ready.length k1) (.slice a2 W.R.wait.length k2) (.slice a3 W.R.due.length k3) (.slice a4 W.R.snaps.length k4) := by simp [zeroW, cellsC]
      rw [eC] at BE
      refine hK _ _ ⟨_, bit_set hL hsz 10 (by omega), s, by simp [frameJ, e3, e14, cellsC], by simpa using hsz, ⟨XE, I.bx.keep KE (fun e => ne1 e.symm), I.bp.keep KE (fun e => ne2 e.symm), fun _ => d9, I.p0, I.l1, fun h => (I.a2 h).kt KT1 (by decide), I.p3, I.l4, I.p5, I.l6, fun h => ?_, fun h => ?_, (fun _ h => by cases h), fun _ => ⟨ob, _, _, _, _, _, e3, hb3, ne1, ne2, BE, D15.kt KT1 (by decide), N15.kt KT1 (by decide) (by decide) (by decide)⟩⟩⟩
      · obtain ⟨r, w1, d, n, e, N⟩ := I.c7 h; exact ⟨r, w1, d, n, e, N.kt KT1 (by decide) (by decide) (by decide)⟩
      · obtain ⟨v, r, w1, d, n, e, D, N⟩ := I.b8 h; exact ⟨v, r, w1, d, n, e, D.kt KT1 (by decide), N.kt KT1 (by decide) (by decide) (by decide)⟩
  · rintro listed a w2 ⟨L, hL, s, rfl, hsz, I⟩ hr
    have ALL : ∀ i, i < 11 → L i = true := fun i hi => by rw [← hL i]; exact all_listed (by kernel_rfl) hsz hr i hi
    obtain ⟨ob, vD', re', wa', du', sn', e3, hb3, ne1, ne2, B3, BD, N3⟩ := I.e10 (ALL 10 (by omega))
    obtain ⟨a1, k1, rfl⟩ := N3.re.form
    obtain ⟨a2, k2, rfl⟩ := N3.wa.form
    obtain ⟨a3, k3, rfl⟩ := N3.du.form
    obtain ⟨a4, k4, rfl⟩ := N3.sn.form
    obtain ⟨ab, cb, rfl⟩ := Own.form BD
    unfold frameJ
    rw [e3]
    have CL0 : Hid (CL w q pb ob W fs 0 (.slice none 0 0) (fun _ => .slice none 0 0) (.slice ab W.dead.length cb) (.slice a1 W.R.ready.length k1) (.slice a2 W.R.wait.length k2) (.slice a3 W.R.due.length k3) (.slice a4 W.R.snaps.length k4) w2) :=
      Lib.hid ⟨I.x, B3, I.bp, World.ownsRow_nil _ _ _ _, fun i hi => by omega, fun i j hi => by omega, BD, N3⟩
    have BQ0 := Lib.hid I.bx
    obtain ⟨z1, z2, z3⟩ := I.bx.rules
    unfold cellsC at z1
    clear hL ALL hr hsz I e3 B3 BD N3
    have HC := Lib.hid (fun (j : Nat) (hj : j < W.L.length) => HH.out.L.cells rfl j hj)
    have HF := Lib.hid (fun (j : Nat) (hj : j < W.L.length) => HH.out.L.flds j hj)
    go_wp2_with fail
    go_loopw [4] (fun iv wr => ∃ (k : Nat) (vL' : Value) (fs' : Nat → Value), k ≤ W.L.length ∧ iv = .int .i64 k ∧ CL w q pb ob W fs k vL' fs' (.slice ab W.dead.length cb) (.slice a1 W.R.ready.length k1) (.slice a2 W.R.wait.length k2) (.slice a3 W.R.due.length k3) (.slice a4 W.R.snaps.length k4) wr ∧ Blk wr q 31 (cellsC W (.slice A1 W.L.length c1) (.slice A2 W.dead.length c2) (.slice A3 W.R.ready.length c3) (.slice A4 W.R.wait.length c4) (.slice A5 W.R.due.length c5) (.slice A6 W.R.snaps.length c6))) (fun iv _ => W.L.length - (intOf iv).toNat)
    case atStart => exact ⟨0, _, _, Nat.zero_le _, rfl, CL0.out, BQ0.out⟩
    case round =>
      obtain ⟨k, vL', fs', hk, rfl, C, bq⟩ := hrel
      have BQ := Lib.hid bq
      clear z1 z2 z3
      obtain ⟨z1, z2, z3⟩ := bq.rules
      unfold cellsC at z1
      clear bq
      have CC := Lib.hid C
      by_cases hlt : k < W.L.length
      · obtain ⟨b, off, rfl, hb, d0, d1, d2, d3, d4, d5⟩ := HC.out k hlt
        have vf := HF.out k hlt
        obtain ⟨AF, cF', ef, f1, f2⟩ := Row.form vf
        replace ef : fs k = .slice AF (tAt W.L k).F.length cF' := ef
        replace d4 : w.cell? ⟨b, off + k * 6 + 4, none⟩ = some (fs k) := d4
        replace vf : ValsAt w (fs k) (tAt W.L k).F := vf
        rw [ef] at d4 vf
        have XA := Lib.hid C.x
        replace d0 := (XA.out.below.cell (p := ⟨b, off + k * 6, none⟩) hb).trans d0
        replace d1 := (XA.out.below.cell (p := ⟨b, off + k * 6 + 1, none⟩) hb).trans d1
        replace d2 := (XA.out.below.cell (p := ⟨b, off + k * 6 + 2, none⟩) hb).trans d2
        replace d3 := (XA.out.below.cell (p := ⟨b, off + k * 6 + 3, none⟩) hb).trans d3
        replace d4 := (XA.out.below.cell (p := ⟨b, off + k * 6 + 4, none⟩) hb).trans d4
        replace d5 := (XA.out.below.cell (p := ⟨b, off + k * 6 + 5, none⟩) hb).trans d5
        have VF := Lib.hid vf
        have M6 := Lib.hid (m6 k hlt)
        obtain ⟨AL', cL', eL⟩ := C.L.form
        subst eL
        have BO2 := Lib.hid C.bo
        obtain ⟨i0, hi0, hz0, hz1, hz2⟩ := info_parts infoT
        obtain ⟨iV, hV, hV0, hV1, hV2⟩ := info_parts infoV'
        obtain ⟨o1, o2, o3⟩ := BO2.out.rules
        unfold cellsC at o1
        have kI : (k : Int) < (W.L.length : Int) := by omega
        clear ef vf C
        have nqo : q ≠ ob := fun e => ne1 e.symm
        generalize ht : tAt W.L k = t at *
        have HTk := Lib.hid ht
        clear ht
        go_upto_region 6 with (fail)
        refine wp_name (fun W2 hW => ?_)
        have BT : Blk W2 wr.heap.size 57 #[.int .i64 t.cls, .int .i64 t.fmt, .int .i64 t.hash, .bool t.fin, .slice AF t.F.length cF', .string t.B] := Blk.new' hW
        have X2 : Ext wr W2 := (Ext.refl wr).alloc' hW
        clear hW d0 d1 d2 d3 d4 d5 z1 z2 z3 o1 o2 o3
        have HX2 := Lib.hid X2
        have HBT := Lib.hid BT
        obtain ⟨t1, t2, t3⟩ := BT.rules
        clear BT X2
        go_upto_region 7 with (at_builtin; refine wpList_append_nil rfl (.tmp 28) 39 rfl 37 iV (.agg #[.bool false, .int .i64 0]) 2 16 Try.underlying39 hV hV0 hV1 hV2 rfl (by decide) (by decide) rfl (Row.ext VF.out (XA.out.trans HX2.out)) (fun i j => by unfold cV; split <;> rfl) M6.out ?_; intro vF' w5 ow x5; obtain ⟨AV, cV', eV⟩ := Own.form ow; subst eV; have X5 := Lib.hid (HX2.out.trans x5); have OW := Lib.hid (Own.base (b' := w.heap.size) ow (by have := (XA.out.trans HX2.out).below.size; exact this)); have APN := Lib.hid (fun i (hi : i < k) => Own.apart ow ((CC.out.fs i hi).ext HX2.out)); have BT5 := Lib.hid (HBT.out.ext x5); clear t1 t2 t3; obtain ⟨t1, t2, t3⟩ := (HBT.out.ext x5).rules; obtain ⟨o1, o2, o3⟩ := (BO2.out.ext X5.out).rules; unfold cellsC at o1; have hob : ob < wr.heap.size := BO2.out.lt; clear x5 ow)
        go_wp2_with (at_builtin; refine wpList_append_own_at _ rfl (.tmp 32) (.tmp 34) 24 rfl w.heap.size 57 i0 (.agg #[.int .i64 0, .int .i64 0, .int .i64 0, .bool false, .slice none 0 0, .string ByteArray.empty]) 6 72 Try.underlying24 hi0 hz0 hz1 hz2 rfl (by decide) (.slice AL' k cL') k (flat k 6 (cL W.L fs')) rfl ?c0 ⟨w5.heap.size, 0, none⟩ 1 1 [.int .i64 t.cls, .int .i64 t.fmt, .int .i64 t.hash, .bool t.fin, .slice AV t.F.length cV', .string t.B] rfl rfl ?c1 ?c2 ?c3 ?c4 ?c5 ?_)
        case c0 => exact CC.out.L.ext ((X5.out.setNew (p := ⟨wr.heap.size, 4, none⟩) (Nat.le_refl _) _).alloc _)
        case c1 =>
          intro j u hj
          have hB := Blk.new (w5.setCell ⟨wr.heap.size, 4, none⟩ (.slice AV t.F.length cV')) 57 #[.int .i64 t.cls, .int .i64 t.fmt, .int .i64 t.hash, .bool t.fin, .slice AV t.F.length cV', .string t.B]
          rw [show (w5.setCell ⟨wr.heap.size, 4, none⟩ (.slice AV t.F.length cV')).heap.size = w5.heap.size from by simp [World.setCell]] at hB
          rw [Addr.add_lit, Nat.zero_add, hB.cell, ← Array.getElem?_toList]
          exact hj
        case c2 =>
          intro u hu
          simp only [List.mem_cons, List.not_mem_nil, or_false] at hu
          rcases hu with rfl | rfl | rfl | rfl | rfl | rfl <;> rfl
        case c3 => unfold maxLen; omega
        case c4 => omega
        case c5 => exact ((XA.out.trans X5.out).setNew (p := ⟨wr.heap.size, 4, none⟩) (XA.out.below.size) _ |>.alloc _).below.size
        intro v' w6 o6 g6 _ _
        have XW := (X5.out.setNew (p := ⟨wr.heap.size, 4, none⟩) (Nat.le_refl _) (.slice AV t.F.length cV')).alloc (.cells #[.int .i64 t.cls, .int .i64 t.fmt, .int .i64 t.hash, .bool t.fin, .slice AV t.F.length cV', .string t.B] 57)
        have XO := ((Ext.refl w5).alloc (.cells #[.int .i64 t.cls, .int .i64 t.fmt, .int .i64 t.hash, .bool t.fin, .slice AV t.F.length cV', .string t.B] 57))
        have LW := CC.out.L.ext XW
        have KW : Keep (fun j => Value.ownBlock (.slice AL' k cL') = some j) _ w6 := ⟨g6.os, g6.tape, g6.output, g6.size, fun k hk hn => g6.block k hk (fun e => hn e.symm)⟩
        have KT6 : KT [57] _ w6 := Keep.mono KW (fun j hj => by obtain ⟨_, cs, hb⟩ := LW.block hj; exact ⟨_, _, by simp, hb⟩)
        have X6 : Ext w w6 := Ext.of_below (Keep.below (XA.out.trans XW).below KW (XA.out.trans XW).below.size (fun i hi e => by have := (LW.block e).1; omega))
        have L6 : Own w6 w.heap.size 57 v' (k + 1) 6 (cL W.L (fun i => if i = k then .slice AV t.F.length cV' else fs' i)) := by
          show w6.ownsRow _ _ _ _ _ _
          have e1 : (List.range 6).map (cL W.L (fun i => if i = k then .slice AV t.F.length cV' else fs' i) k) = [.int .i64 t.cls, .int .i64 t.fmt, .int .i64 t.hash, .bool t.fin, .slice AV t.F.length cV', .string t.B] := by
            rw [show List.range 6 = [0, 1, 2, 3, 4, 5] from rfl]
            simp only [List.map_cons, List.map_nil, cL, cT, if_true, HTk.out]
          have e2 : flat k 6 (cL W.L (fun i => if i = k then .slice AV t.F.length cV' else fs' i)) = flat k 6 (cL W.L fs') := flat_congr (fun i j hi => by simp only [cL]; rw [if_neg (by omega)])
          rw [flat_succ, e1, e2]
          exact o6
        obtain ⟨AL6, cL6, eL6⟩ := L6.form
        subst eL6
        have BO6 := blk_kt (BO2.out.ext XW) KT6 (by decide)
        have KTo := kt_set BO6 0 (.slice AL6 (k + 1) cL6)
        have OW6 := (((OW.out.set BT5.out (by decide) (i := 4) (u := .slice AV t.F.length cV')).ext ((Ext.refl _).alloc (.cells #[.int .i64 t.cls, .int .i64 t.fmt, .int .i64 t.hash, .bool t.fin, .slice AV t.F.length cV', .string t.B] 57))).kt KT6 (by decide)).kt KTo (by decide)
        have CN : Hid (CL w q pb ob W fs (k + 1) (.slice AL6 (k + 1) cL6) (fun i => if i = k then .slice AV t.F.length cV' else fs' i) (.slice ab W.dead.length cb) (.slice a1 W.R.ready.length k1) (.slice a2 W.R.wait.length k2) (.slice a3 W.R.due.length k3) (.slice a4 W.R.snaps.length k4) (w6.setCell ⟨ob, 0, none⟩ (.slice AL6 (k + 1) cL6))) := Lib.hid ⟨X6.setNew (p := ⟨ob, 0, none⟩) hb3 _, by have := BO6.set 0 (.slice AL6 (k + 1) cL6); simpa [cellsC] using this, (blk_kt (CC.out.bp.ext XW) KT6 (by decide)).far (p := ⟨ob, 0, none⟩) (fun e => ne2 e.symm) _, L6.kt KTo (by decide), fun i hi => by
            show Own _ _ _ (if i = k then _ else _) _ _ _
            by_cases e : i = k
            · subst e; rw [if_pos rfl, HTk.out]; exact OW6
            · rw [if_neg e]; exact (((CC.out.fs i (by omega)).ext XW).kt KT6 (by decide)).kt KTo (by decide), fun i j hi hj => by
            show Apart (if i = k then _ else _) (if j = k then _ else _)
            rw [if_neg (by omega : j ≠ k)]
            by_cases e : i = k
            · subst e; rw [if_pos rfl]; exact APN.out j hj
            · rw [if_neg e]; exact CC.out.ap i j (by omega) hj, ((CC.out.dead.ext XW).kt KT6 (by decide)).kt KTo (by decide), ((CC.out.R.ext XW).kt KT6 (by decide) (by decide) (by decide)).kt KTo (by decide) (by decide) (by decide)⟩
        have BQN := Lib.hid ((blk_kt (BQ.out.ext XW) KT6 (by decide)).far (p := ⟨ob, 0, none⟩) nqo (.slice AL6 (k + 1) cL6))
        obtain ⟨y1, y2, y3⟩ := BO6.rules
        unfold cellsC at y1
        clear t1 t2 t3 o1 o2 o3 L6 KTo OW6 KT6 KW X6 XW XO LW g6 o6 BO6
        go_wp2_with fail
        go_roundw
        case rel => exact ⟨k + 1, _, _, by omega, by go_num, CN.out, BQN.out⟩
        case measure => simp [intOf]; omega
      · obtain rfl : k = W.L.length := by omega
        obtain ⟨AL', cL', eL⟩ := C.L.form
        subst eL
        obtain ⟨y1, y2, y3⟩ := C.bo.rules
        obtain ⟨p1, p2, p3⟩ := C.bp.rules
        unfold cellsC at y1
        unfold zeroW at p1
        clear C
        go_wp2_with fail
        refine bodyPost_ret (v := .agg (cellsC W (.slice AL' W.L.length cL') (.slice ab W.dead.length cb) (.slice a1 W.R.ready.length k1) (.slice a2 W.R.wait.length k2) (.slice a3 W.R.due.length k3) (.slice a4 W.R.snaps.length k4))) (by simp [results, Try.results43, go_sem, p1, cellsC]) rfl ?_
        have KP := (((((((((((((Keep.refl (· = pb) wr).setCell (p := ⟨pb, 0, none⟩) rfl (.slice AL' W.L.length cL')).setCell (p := ⟨pb, 1, none⟩) rfl (.slice ab W.dead.length cb)).setCell (p := ⟨pb, 2, none⟩) rfl (.int .i64 W.last)).setCell (p := ⟨pb, 3, none⟩) rfl (.int .i64 W.R.proc)).setCell (p := ⟨pb, 4, none⟩) rfl (.int .i64 W.R.frame)).setCell (p := ⟨pb, 5, none⟩) rfl (.slice a1 W.R.ready.length k1)).setCell (p := ⟨pb, 6, none⟩) rfl (.slice a2 W.R.wait.length k2)).setCell (p := ⟨pb, 7, none⟩) rfl (.slice a3 W.R.due.length k3)).setCell (p := ⟨pb, 8, none⟩) rfl (.string W.R.out)).setCell (p := ⟨pb, 9, none⟩) rfl (.string W.R.inp)).setCell (p := ⟨pb, 10, none⟩) rfl (.int .i64 W.R.how)).setCell (p := ⟨pb, 11, none⟩) rfl (.int .i64 W.R.exit)).setCell (p := ⟨pb, 12, none⟩) rfl (.slice a4 W.R.snaps.length k4)
        have KPT : KT [31] wr _ := Keep.mono KP (fun j e => by subst e; exact ⟨_, _, by simp, CC.out.bp⟩)
        refine ⟨⟨⟨.slice AL' W.L.length cL', fs', .slice ab W.dead.length cb, .slice a1 W.R.ready.length k1, .slice a2 W.R.wait.length k2, .slice a3 W.R.due.length k3, .slice a4 W.R.snaps.length k4⟩, rfl, CC.out.L.kt KPT (by decide), fun i hi => (CC.out.fs i hi).kt KPT (by decide), CC.out.ap, CC.out.dead.kt KPT (by decide), CC.out.R.kt KPT (by decide) (by decide) (by decide), HH.out.nums⟩, ?_⟩
        exact (((((((((((((CC.out.x).setNew (p := ⟨pb, 0, none⟩) hpbw _).setNew (p := ⟨pb, 1, none⟩) hpbw _).setNew (p := ⟨pb, 2, none⟩) hpbw _).setNew (p := ⟨pb, 3, none⟩) hpbw _).setNew (p := ⟨pb, 4, none⟩) hpbw _).setNew (p := ⟨pb, 5, none⟩) hpbw _).setNew (p := ⟨pb, 6, none⟩) hpbw _).setNew (p := ⟨pb, 7, none⟩) hpbw _).setNew (p := ⟨pb, 8, none⟩) hpbw _).setNew (p := ⟨pb, 9, none⟩) hpbw _).setNew (p := ⟨pb, 10, none⟩) hpbw _).setNew (p := ⟨pb, 11, none⟩) hpbw _).setNew (p := ⟨pb, 12, none⟩) hpbw _
end
end Go.Proofs.Ytadhkmplhgcgkaa.World
namespace Go.Proofs.Ytadhkmplhgcgkaa.World
open Go.RowKit Go.Proofs.Ytadhkmplhgcgkaa.Plain
set_option linter.unusedVariables false
attribute [local go_sem ↓] Go.wp_at_zero Go.wp_at_succ
theorem rcopy_ok {w : World} {x : WV} {W : PW} (h : WorldAt w x W) (hc : checkB W = true) : Calls Try.prog 43 #[.agg (cellsW W x)] w fun e w' => (∃ x', e = .returned (.agg (cellsW W x')) ∧ NewW w' w.heap.size W x') ∧ Ext w w' := by
  have q := regs_lens hc
  have n := check_len hc
  have dl : W.dead.length ≤ 1000000 := by
    have c := hc
    unfold checkB at c
    simp only [Bool.and_eq_true, decide_eq_true_eq] at c
    have := c.2.1
    omega
  have sn20 : W.R.snaps.length ≤ 1000000 := by
    have c := check_regs hc
    unfold regsB at c
    simp only [Bool.and_eq_true, decide_eq_true_eq] at c
    omega
  refine rcopy h (by omega) dl (by omega) (by omega) (by omega) sn20 (fun i hi => ?_)
  have z := (check_thing hc hi).2
  unfold shapeB at z
  split at z
  · simp only [Bool.and_eq_true, decide_eq_true_eq] at z; omega
  · split at z
    · simp only [Bool.and_eq_true, decide_eq_true_eq] at z; omega
    · cases z
theorem keep13 (w : World) (p : Nat) (x0 x1 x2 x3 x4 x5 x6 x7 x8 x9 x10 x11 x12 : Value) : Keep (· = p) w (((((((((((((w.setCell ⟨p, 0, none⟩ x0).setCell ⟨p, 1, none⟩ x1).setCell ⟨p, 2, none⟩ x2).setCell ⟨p, 3, none⟩ x3).setCell ⟨p, 4, none⟩ x4).setCell ⟨p, 5, none⟩ x5).setCell ⟨p, 6, none⟩ x6).setCell ⟨p, 7, none⟩ x7).setCell ⟨p, 8, none⟩ x8).setCell ⟨p, 9, none⟩ x9).setCell ⟨p, 10, none⟩ x10).setCell ⟨p, 11, none⟩ x11).setCell ⟨p, 12, none⟩ x12) :=
  ((((((((((((((Keep.refl (· = p) w).setCell (p := ⟨p, 0, none⟩) rfl x0).setCell (p := ⟨p, 1, none⟩) rfl x1).setCell (p := ⟨p, 2, none⟩) rfl x2).setCell (p := ⟨p, 3, none⟩) rfl x3).setCell (p := ⟨p, 4, none⟩) rfl x4).setCell (p := ⟨p, 5, none⟩) rfl x5).setCell (p := ⟨p, 6, none⟩) rfl x6).setCell (p := ⟨p, 7, none⟩) rfl x7).setCell (p := ⟨p, 8, none⟩) rfl x8).setCell (p := ⟨p, 9, none⟩) rfl x9).setCell (p := ⟨p, 10, none⟩) rfl x10).setCell (p := ⟨p, 11, none⟩) rfl x11).setCell (p := ⟨p, 12, none⟩) rfl x12)
theorem ext13 {a w : World} {p : Nat} (h : Ext a w) (hp : a.heap.size ≤ p) (x0 x1 x2 x3 x4 x5 x6 x7 x8 x9 x10 x11 x12 : Value) : Ext a (((((((((((((w.setCell ⟨p, 0, none⟩ x0).setCell ⟨p, 1, none⟩ x1).setCell ⟨p, 2, none⟩ x2).setCell ⟨p, 3, none⟩ x3).setCell ⟨p, 4, none⟩ x4).setCell ⟨p, 5, none⟩ x5).setCell ⟨p, 6, none⟩ x6).setCell ⟨p, 7, none⟩ x7).setCell ⟨p, 8, none⟩ x8).setCell ⟨p, 9, none⟩ x9).setCell ⟨p, 10, none⟩ x10).setCell ⟨p, 11, none⟩ x11).setCell ⟨p, 12, none⟩ x12) :=
  (((((((((((((h.setNew (p := ⟨p, 0, none⟩) hp x0).setNew (p := ⟨p, 1, none⟩) hp x1).setNew (p := ⟨p, 2, none⟩) hp x2).setNew (p := ⟨p, 3, none⟩) hp x3).setNew (p := ⟨p, 4, none⟩) hp x4).setNew (p := ⟨p, 5, none⟩) hp x5).setNew (p := ⟨p, 6, none⟩) hp x6).setNew (p := ⟨p, 7, none⟩) hp x7).setNew (p := ⟨p, 8, none⟩) hp x8).setNew (p := ⟨p, 9, none⟩) hp x9).setNew (p := ⟨p, 10, none⟩) hp x10).setNew (p := ⟨p, 11, none⟩) hp x11).setNew (p := ⟨p, 12, none⟩) hp x12)
set_option maxRecDepth 100000 in
set_option maxHeartbeats 4000000 in
theorem lworld {w : World} {x : WV} {W : PW} (h : WorldAt w x W) (hc : checkB W = true) : Calls Try.prog 20 #[.agg (cellsW W x)] w fun e w' => (∃ x', e = .returned (.agg (cellsW W x')) ∧ NewW w' w.heap.size W x') ∧ Ext w w' := by
  have CE := Lib.hid (fun W2 (z : Ext w W2) => rcopy_ok (h.ext z) hc)
  unfold cellsW at CE ⊢
  obtain ⟨vL, fs, vD, vRe, vWa, vDu, vSn⟩ := x
  simp only at CE ⊢
  obtain ⟨AvL, cvL, evL, lvL, _⟩ := h.L.row.form
  replace evL : vL = .slice AvL W.L.length cvL := evL
  subst evL
  obtain ⟨AvD, cvD, evD, lvD, _⟩ := Row.form h.dead
  replace evD : vD = .slice AvD W.dead.length cvD := evD
  subst evD
  obtain ⟨AvRe, cvRe, evRe, lvRe, _⟩ := Row.form h.ready
  replace evRe : vRe = .slice AvRe W.R.ready.length cvRe := evRe
  subst evRe
  obtain ⟨AvWa, cvWa, evWa, lvWa, _⟩ := Row.form h.wait
  replace evWa : vWa = .slice AvWa W.R.wait.length cvWa := evWa
  subst evWa
  obtain ⟨AvDu, cvDu, evDu, lvDu, _⟩ := Row.form h.due
  replace evDu : vDu = .slice AvDu W.R.due.length cvDu := evDu
  subst evDu
  obtain ⟨AvSn, cvSn, evSn, lvSn, _⟩ := Row.form h.snaps
  replace evSn : vSn = .slice AvSn W.R.snaps.length cvSn := evSn
  subst evSn
  clear h
  go_enter Try.func20, Try.ntmps20
  go_upto_region 1 with (fail)
  refine wp_name (fun W1 hW => ?_)
  have b2 := Blk.new' hW
  have b1 : Blk W1 w.heap.size _ _ := (Blk.new w _ _).alloc' hW
  have x1 := ((Ext.refl w).alloc _).alloc' hW
  simp only [World.size_alloc] at b2
  clear hW
  obtain ⟨r1, r2, r3⟩ := b1.rules
  have X1 := Lib.hid x1
  have B2 := Lib.hid b2
  clear b1 b2 x1
  have hp : w.heap.size ≤ w.heap.size + 1 := Nat.le_succ _
  generalize hq : w.heap.size = q at *
  have QB := Lib.hid hq
  generalize q + 1 = pb at *
  clear hq
  go_wp2_with ((go_at_call 43; refine (CE.out _ X1.out).mono ?_; rintro e w2 ⟨⟨xc, rfl, nc⟩, x2⟩; obtain ⟨cL, cfs, cD, cRe, cWa, cDu, cSn⟩ := xc; obtain ⟨aL, kL, fL⟩ := Own.form nc.L; obtain ⟨aD, kD, fD⟩ := Own.form nc.dead; obtain ⟨aRe, kRe, fRe⟩ := Own.form nc.R.re; obtain ⟨aWa, kWa, fWa⟩ := Own.form nc.R.wa; obtain ⟨aDu, kDu, fDu⟩ := Own.form nc.R.du; obtain ⟨aSn, kSn, fSn⟩ := Own.form nc.R.sn; simp only at fL fD fRe fWa fDu fSn; subst fL fD fRe fWa fDu fSn; have NC := Lib.hid nc; have X2 := Lib.hid (X1.out.trans x2); have B3 := Lib.hid (B2.out.ext x2); have SZ := Lib.hid X1.out.below.size; clear r1 r2 r3; obtain ⟨r1, r2, r3⟩ := (B2.out.ext x2).rules; clear nc x2))
  have hpw : w.heap.size ≤ pb := by rw [QB.out]; exact hp
  have KP := keep13 w2 pb (.slice aL W.L.length kL) (.slice aD W.dead.length kD) (.int .i64 W.last) (.int .i64 W.R.proc) (.int .i64 W.R.frame) (.slice aRe W.R.ready.length kRe) (.slice aWa W.R.wait.length kWa) (.slice aDu W.R.due.length kDu) (.string W.R.out) (.string W.R.inp) (.int .i64 W.R.how) (.int .i64 W.R.exit) (.slice aSn W.R.snaps.length kSn)
  have XE := ext13 X2.out hpw (.slice aL W.L.length kL) (.slice aD W.dead.length kD) (.int .i64 W.last) (.int .i64 W.R.proc) (.int .i64 W.R.frame) (.slice aRe W.R.ready.length kRe) (.slice aWa W.R.wait.length kWa) (.slice aDu W.R.due.length kDu) (.string W.R.out) (.string W.R.inp) (.int .i64 W.R.how) (.int .i64 W.R.exit) (.slice aSn W.R.snaps.length kSn)
  have KPT : KT [31] w2 _ := Keep.mono KP (fun j e => by subst e; exact ⟨_, _, by simp, B3.out⟩)
  refine bodyPost_ret (v := .agg #[.slice aL W.L.length kL, .slice aD W.dead.length kD, .int .i64 W.last, .int .i64 W.R.proc, .int .i64 W.R.frame, .slice aRe W.R.ready.length kRe, .slice aWa W.R.wait.length kWa, .slice aDu W.R.due.length kDu, .string W.R.out, .string W.R.inp, .int .i64 W.R.how, .int .i64 W.R.exit, .slice aSn W.R.snaps.length kSn]) (by simp [results, Try.results20, go_sem, r1]) rfl ?_
  refine ⟨⟨⟨.slice aL W.L.length kL, cfs, .slice aD W.dead.length kD, .slice aRe W.R.ready.length kRe, .slice aWa W.R.wait.length kWa, .slice aDu W.R.due.length kDu, .slice aSn W.R.snaps.length kSn⟩, rfl, ?_⟩, XE⟩
  rw [QB.out]
  exact (NC.out.kt KPT (by decide) (by decide) (by decide) (by decide) (by decide) (by decide)).base (by have := SZ.out; rw [QB.out] at this; exact this)
end Go.Proofs.Ytadhkmplhgcgkaa.World
