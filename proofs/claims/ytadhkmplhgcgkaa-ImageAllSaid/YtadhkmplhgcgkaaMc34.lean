/-
  RefSameRegs, as one text (a claim has at most 60 files).
-/
import Derived.Test.YtadhkmplhgcgkaaMc33
import Derived.Deep.DeepCutAuto
namespace Go.Proofs.Ytadhkmplhgcgkaa.World
open Go.RowKit Go.Proofs.Ytadhkmplhgcgkaa.Plain
set_option linter.unusedVariables false
attribute [local go_sem ↓] Go.wp_at_zero Go.wp_at_succ
def wtsB (R Q : PR) : Bool := allTo (fun i => eqP (wAt R.wait i) (wAt Q.wait i)) R.wait.length
def snsB (R Q : PR) : Bool := allTo (fun i => (sAt R.snaps i).toList == (sAt Q.snaps i).toList) R.snaps.length
def eqR (R Q : PR) : Bool := R.proc == Q.proc && (R.frame == Q.frame && (eqInts R.ready Q.ready && (eqInts R.due Q.due && (decide (R.wait.length = Q.wait.length) && (R.out.toList == Q.out.toList && (R.inp.toList == Q.inp.toList && (R.how == Q.how && (R.exit == Q.exit && (decide (R.snaps.length = Q.snaps.length) && (wtsB R Q && snsB R Q))))))))))
section
variable {w : World}
set_option maxRecDepth 100000 in
set_option maxHeartbeats 8000000 in
theorem rsameRegs {R Q : PR} {re wa du sn re' wa' du' sn' : Value} (h1 : IntsAt w re R.ready) (h2 : WaitsAt w wa R.wait) (h3 : IntsAt w du R.due) (h4 : StrsAt w sn R.snaps)
    (k1 : IntsAt w re' Q.ready) (k2 : WaitsAt w wa' Q.wait) (k3 : IntsAt w du' Q.due) (k4 : StrsAt w sn' Q.snaps) :
    Calls Try.prog 87 #[.agg (cellsR R re wa du sn), .agg (cellsR Q re' wa' du' sn')] w fun e w' => e = .returned (.bool (eqR R Q)) ∧ Ext w w' := by
  have CI := Lib.hid (fun W2 (y : Ext w W2) => rints (h1.ext y) (k1.ext y))
  have CJ := Lib.hid (fun W2 (y : Ext w W2) => rints (h3.ext y) (k3.ext y))
  obtain ⟨Are, cre, ere, lre, _⟩ := Row.form h1
  replace ere : re = .slice Are R.ready.length cre := ere
  subst ere
  obtain ⟨Awa, cwa, ewa, lwa, _⟩ := Row.form h2
  replace ewa : wa = .slice Awa R.wait.length cwa := ewa
  subst ewa
  obtain ⟨Adu, cdu, edu, ldu, _⟩ := Row.form h3
  replace edu : du = .slice Adu R.due.length cdu := edu
  subst edu
  obtain ⟨Asn, csn, esn, lsn, _⟩ := Row.form h4
  replace esn : sn = .slice Asn R.snaps.length csn := esn
  subst esn
  obtain ⟨AreQ, creQ, ereQ, lreQ, _⟩ := Row.form k1
  replace ereQ : re' = .slice AreQ Q.ready.length creQ := ereQ
  subst ereQ
  obtain ⟨AwaQ, cwaQ, ewaQ, lwaQ, _⟩ := Row.form k2
  replace ewaQ : wa' = .slice AwaQ Q.wait.length cwaQ := ewaQ
  subst ewaQ
  obtain ⟨AduQ, cduQ, eduQ, lduQ, _⟩ := Row.form k3
  replace eduQ : du' = .slice AduQ Q.due.length cduQ := eduQ
  subst eduQ
  obtain ⟨AsnQ, csnQ, esnQ, lsnQ, _⟩ := Row.form k4
  replace esnQ : sn' = .slice AsnQ Q.snaps.length csnQ := esnQ
  subst esnQ
  have HW : Hid (∀ W, Ext w W → ∀ j, j < R.wait.length → ∃ b off, Awa = some ⟨b, off, none⟩ ∧ b < W.heap.size ∧ W.cell? ⟨b, off + j * 2, none⟩ = some (.int .i64 (wAt R.wait j).1) ∧ W.cell? ⟨b, off + j * 2 + 1, none⟩ = some (.int .i64 (wAt R.wait j).2)) := Lib.hid (fun W y j hj => by
    obtain ⟨b, off, e, hb, hc⟩ := Row.at_ (h2.ext y) j hj
    exact ⟨b, off, e, hb, hc 0 (by omega), hc 1 (by omega)⟩)
  have HV : Hid (∀ W, Ext w W → ∀ j, j < Q.wait.length → ∃ b off, AwaQ = some ⟨b, off, none⟩ ∧ b < W.heap.size ∧ W.cell? ⟨b, off + j * 2, none⟩ = some (.int .i64 (wAt Q.wait j).1) ∧ W.cell? ⟨b, off + j * 2 + 1, none⟩ = some (.int .i64 (wAt Q.wait j).2)) := Lib.hid (fun W y j hj => by
    obtain ⟨b, off, e, hb, hc⟩ := Row.at_ (k2.ext y) j hj
    exact ⟨b, off, e, hb, hc 0 (by omega), hc 1 (by omega)⟩)
  have HS : Hid (∀ W, Ext w W → ∀ j, j < R.snaps.length → ∃ b off, Asn = some ⟨b, off, none⟩ ∧ b < W.heap.size ∧ W.cell? ⟨b, off + j, none⟩ = some (.string (sAt R.snaps j))) := Lib.hid (fun W y j hj => by
    obtain ⟨b, off, e, hb, hc⟩ := Row.at_ (h4.ext y) j hj
    have c := hc 0 (by omega)
    exact ⟨b, off, e, hb, by simpa using c⟩)
  have HZ : Hid (∀ W, Ext w W → ∀ j, j < Q.snaps.length → ∃ b off, AsnQ = some ⟨b, off, none⟩ ∧ b < W.heap.size ∧ W.cell? ⟨b, off + j, none⟩ = some (.string (sAt Q.snaps j))) := Lib.hid (fun W y j hj => by
    obtain ⟨b, off, e, hb, hc⟩ := Row.at_ (k4.ext y) j hj
    have c := hc 0 (by omega)
    exact ⟨b, off, e, hb, by simpa using c⟩)
  have E : Hid (eqR R Q = (R.proc == Q.proc && (R.frame == Q.frame && (eqInts R.ready Q.ready && (eqInts R.due Q.due && (decide (R.wait.length = Q.wait.length) && (R.out.toList == Q.out.toList && (R.inp.toList == Q.inp.toList && (R.how == Q.how && (R.exit == Q.exit && (decide (R.snaps.length = Q.snaps.length) && (wtsB R Q && snsB R Q)))))))))))) := rfl
  have EW : Hid (wtsB R Q = allTo (fun i => eqP (wAt R.wait i) (wAt Q.wait i)) R.wait.length) := rfl
  have ES : Hid (snsB R Q = allTo (fun i => (sAt R.snaps i).toList == (sAt Q.snaps i).toList) R.snaps.length) := rfl
  have AW := Lib.hid (allTo_false (fun i => eqP (wAt R.wait i) (wAt Q.wait i)) R.wait.length)
  have AWS := Lib.hid (allTo_succ (fun i => eqP (wAt R.wait i) (wAt Q.wait i)))
  have AN := Lib.hid (allTo_false (fun i => (sAt R.snaps i).toList == (sAt Q.snaps i).toList) R.snaps.length)
  have ANS := Lib.hid (allTo_succ (fun i => (sAt R.snaps i).toList == (sAt Q.snaps i).toList))
  unfold cellsR
  clear h1 h2 h3 h4 k1 k2 k3 k4
  generalize eqR R Q = res at *
  generalize eqInts R.ready Q.ready = q3 at *
  generalize eqInts R.due Q.due = q4 at *
  generalize wtsB R Q = bw at *
  generalize snsB R Q = bs at *
  obtain ⟨xproc, xframe, xready, xwait, xdue, xout, xinp, xhow, xexit, xsnaps⟩ := R
  obtain ⟨yproc, yframe, yready, ywait, ydue, yout, yinp, yhow, yexit, ysnaps⟩ := Q
  simp only at *
  obtain ⟨p1, h1⟩ : ∃ p, (xproc != yproc) = p := ⟨_, rfl⟩
  obtain ⟨p2, h2⟩ : ∃ p, (xframe != yframe) = p := ⟨_, rfl⟩
  obtain ⟨p3, h3⟩ : ∃ p, (!q3) = p := ⟨_, rfl⟩
  obtain ⟨p4, h4⟩ : ∃ p, (!q4) = p := ⟨_, rfl⟩
  obtain ⟨p5, h5⟩ : ∃ p, ((xwait.length : Int) != (ywait.length : Int)) = p := ⟨_, rfl⟩
  obtain ⟨p6, h6⟩ : ∃ p, (!(xout.toList == yout.toList)) = p := ⟨_, rfl⟩
  obtain ⟨p7, h7⟩ : ∃ p, (!(xinp.toList == yinp.toList)) = p := ⟨_, rfl⟩
  obtain ⟨p8, h8⟩ : ∃ p, (xhow != yhow) = p := ⟨_, rfl⟩
  obtain ⟨p9, h9⟩ : ∃ p, (xexit != yexit) = p := ⟨_, rfl⟩
  obtain ⟨p10, h10⟩ : ∃ p, ((xsnaps.length : Int) != (ysnaps.length : Int)) = p := ⟨_, rfl⟩
  have g1 : (xproc == yproc) = !p1 := by rw [← h1]; unfold bne; simp
  have g2 : (xframe == yframe) = !p2 := by rw [← h2]; unfold bne; simp
  have g3 : q3 = !p3 := by rw [← h3]; simp
  have g4 : q4 = !p4 := by rw [← h4]; simp
  have g5 : decide (xwait.length = ywait.length) = !p5 := by
    rw [← h5]
    by_cases e : xwait.length = ywait.length
    · rw [decide_eq_true e, e]; simp
    · rw [decide_eq_false e]; simp; omega
  have g6 : (xout.toList == yout.toList) = !p6 := by rw [← h6]; simp
  have g7 : (xinp.toList == yinp.toList) = !p7 := by rw [← h7]; simp
  have g8 : (xhow == yhow) = !p8 := by rw [← h8]; unfold bne; simp
  have g9 : (xexit == yexit) = !p9 := by rw [← h9]; unfold bne; simp
  have g10 : decide (xsnaps.length = ysnaps.length) = !p10 := by
    rw [← h10]
    by_cases e : xsnaps.length = ysnaps.length
    · rw [decide_eq_true e, e]; simp
    · rw [decide_eq_false e]; simp; omega
  rw [g1, g2, g3, g4, g5, g6, g7, g8, g9, g10] at E
  have G5 := Lib.hid g5
  have G10 := Lib.hid g10
  clear g1 g2 g3 g4 g5 g6 g7 g8 g9 g10
  go_enter Try.func87, Try.ntmps87
  go_upto_region 1 with (fail)
  refine wp_name (fun W1 hW => ?_)
  have b2 := Blk.new' hW
  have b1 : Blk W1 w.heap.size _ _ := (Blk.new w _ _).alloc' hW
  have x1 := ((Ext.refl w).alloc _).alloc' hW
  simp only [World.size_alloc] at b2
  clear hW
  obtain ⟨r1, r2, r3⟩ := b1.rules
  obtain ⟨s1, s2, s3⟩ := b2.rules
  have B1 := Lib.hid b1
  have B2 := Lib.hid b2
  have X1 := Lib.hid x1
  clear b1 b2 x1
  refine wp_region_fixed ?_
  try simp only [List.append]
  repeat (go_big_quiet_step ((first | (go_at_call 111; with_reducible exact calls_ext (CI.out _ (X1.out.ext _))) | (go_at_call 111; with_reducible exact calls_ext (CJ.out _ (X1.out.ext _))))))
  cases p1 with
  | true =>
    rw [Bool.not_true, Bool.false_and] at E
    repeat (go_big_quiet_step ((first | (go_at_call 111; with_reducible exact calls_ext (CI.out _ (X1.out.ext _))) | (go_at_call 111; with_reducible exact calls_ext (CJ.out _ (X1.out.ext _))))))
    refine wpQuiet_nil ?_
    rintro W3 ⟨xx, rfl⟩
    go_wp2_with fail
    go_ret
    exact ⟨ret_bool E.out.symm, X1.out.trans (is_ext _ _)⟩
  | false =>
    rw [Bool.not_false, Bool.true_and] at E
    repeat (go_big_quiet_step ((first | (go_at_call 111; with_reducible exact calls_ext (CI.out _ (X1.out.ext _))) | (go_at_call 111; with_reducible exact calls_ext (CJ.out _ (X1.out.ext _))))))
    cases p2 with
    | true =>
      rw [Bool.not_true, Bool.false_and] at E
      repeat (go_big_quiet_step ((first | (go_at_call 111; with_reducible exact calls_ext (CI.out _ (X1.out.ext _))) | (go_at_call 111; with_reducible exact calls_ext (CJ.out _ (X1.out.ext _))))))
      refine wpQuiet_nil ?_
      rintro W3 ⟨xx, rfl⟩
      go_wp2_with fail
      go_ret
      exact ⟨ret_bool E.out.symm, X1.out.trans (is_ext _ _)⟩
    | false =>
      rw [Bool.not_false, Bool.true_and] at E
      repeat (go_big_quiet_step ((first | (go_at_call 111; with_reducible exact calls_ext (CI.out _ (X1.out.ext _))) | (go_at_call 111; with_reducible exact calls_ext (CJ.out _ (X1.out.ext _))))))
      cases p3 with
      | true =>
        rw [Bool.not_true, Bool.false_and] at E
        repeat (go_big_quiet_step ((first | (go_at_call 111; with_reducible exact calls_ext (CI.out _ (X1.out.ext _))) | (go_at_call 111; with_reducible exact calls_ext (CJ.out _ (X1.out.ext _))))))
        refine wpQuiet_nil ?_
        rintro W3 ⟨xx, rfl⟩
        go_wp2_with fail
        go_ret
        exact ⟨ret_bool E.out.symm, X1.out.trans (is_ext _ _)⟩
      | false =>
        rw [Bool.not_false, Bool.true_and] at E
        repeat (go_big_quiet_step ((first | (go_at_call 111; with_reducible exact calls_ext (CI.out _ (X1.out.ext _))) | (go_at_call 111; with_reducible exact calls_ext (CJ.out _ (X1.out.ext _))))))
        cases p4 with
        | true =>
          rw [Bool.not_true, Bool.false_and] at E
          repeat (go_big_quiet_step ((first | (go_at_call 111; with_reducible exact calls_ext (CI.out _ (X1.out.ext _))) | (go_at_call 111; with_reducible exact calls_ext (CJ.out _ (X1.out.ext _))))))
          refine wpQuiet_nil ?_
          rintro W3 ⟨xx, rfl⟩
          go_wp2_with fail
          go_ret
          exact ⟨ret_bool E.out.symm, X1.out.trans (is_ext _ _)⟩
        | false =>
          rw [Bool.not_false, Bool.true_and] at E
          repeat (go_big_quiet_step ((first | (go_at_call 111; with_reducible exact calls_ext (CI.out _ (X1.out.ext _))) | (go_at_call 111; with_reducible exact calls_ext (CJ.out _ (X1.out.ext _))))))
          cases p5 with
          | true =>
            rw [Bool.not_true, Bool.false_and] at E
            repeat (go_big_quiet_step ((first | (go_at_call 111; with_reducible exact calls_ext (CI.out _ (X1.out.ext _))) | (go_at_call 111; with_reducible exact calls_ext (CJ.out _ (X1.out.ext _))))))
            refine wpQuiet_nil ?_
            rintro W3 ⟨xx, rfl⟩
            go_wp2_with fail
            go_ret
            exact ⟨ret_bool E.out.symm, X1.out.trans (is_ext _ _)⟩
          | false =>
            rw [Bool.not_false, Bool.true_and] at E
            repeat (go_big_quiet_step ((first | (go_at_call 111; with_reducible exact calls_ext (CI.out _ (X1.out.ext _))) | (go_at_call 111; with_reducible exact calls_ext (CJ.out _ (X1.out.ext _))))))
            cases p6 with
            | true =>
              rw [Bool.not_true, Bool.false_and] at E
              repeat (go_big_quiet_step ((first | (go_at_call 111; with_reducible exact calls_ext (CI.out _ (X1.out.ext _))) | (go_at_call 111; with_reducible exact calls_ext (CJ.out _ (X1.out.ext _))))))
              refine wpQuiet_nil ?_
              rintro W3 ⟨xx, rfl⟩
              go_wp2_with fail
              go_ret
              exact ⟨ret_bool E.out.symm, X1.out.trans (is_ext _ _)⟩
            | false =>
              rw [Bool.not_false, Bool.true_and] at E
              repeat (go_big_quiet_step ((first | (go_at_call 111; with_reducible exact calls_ext (CI.out _ (X1.out.ext _))) | (go_at_call 111; with_reducible exact calls_ext (CJ.out _ (X1.out.ext _))))))
              cases p7 with
              | true =>
                rw [Bool.not_true, Bool.false_and] at E
                repeat (go_big_quiet_step ((first | (go_at_call 111; with_reducible exact calls_ext (CI.out _ (X1.out.ext _))) | (go_at_call 111; with_reducible exact calls_ext (CJ.out _ (X1.out.ext _))))))
                refine wpQuiet_nil ?_
                rintro W3 ⟨xx, rfl⟩
                go_wp2_with fail
                go_ret
                exact ⟨ret_bool E.out.symm, X1.out.trans (is_ext _ _)⟩
              | false =>
                rw [Bool.not_false, Bool.true_and] at E
                repeat (go_big_quiet_step ((first | (go_at_call 111; with_reducible exact calls_ext (CI.out _ (X1.out.ext _))) | (go_at_call 111; with_reducible exact calls_ext (CJ.out _ (X1.out.ext _))))))
                cases p8 with
                | true =>
                  rw [Bool.not_true, Bool.false_and] at E
                  repeat (go_big_quiet_step ((first | (go_at_call 111; with_reducible exact calls_ext (CI.out _ (X1.out.ext _))) | (go_at_call 111; with_reducible exact calls_ext (CJ.out _ (X1.out.ext _))))))
                  refine wpQuiet_nil ?_
                  rintro W3 ⟨xx, rfl⟩
                  go_wp2_with fail
                  go_ret
                  exact ⟨ret_bool E.out.symm, X1.out.trans (is_ext _ _)⟩
                | false =>
                  rw [Bool.not_false, Bool.true_and] at E
                  repeat (go_big_quiet_step ((first | (go_at_call 111; with_reducible exact calls_ext (CI.out _ (X1.out.ext _))) | (go_at_call 111; with_reducible exact calls_ext (CJ.out _ (X1.out.ext _))))))
                  cases p9 with
                  | true =>
                    rw [Bool.not_true, Bool.false_and] at E
                    repeat (go_big_quiet_step ((first | (go_at_call 111; with_reducible exact calls_ext (CI.out _ (X1.out.ext _))) | (go_at_call 111; with_reducible exact calls_ext (CJ.out _ (X1.out.ext _))))))
                    refine wpQuiet_nil ?_
                    rintro W3 ⟨xx, rfl⟩
                    go_wp2_with fail
                    go_ret
                    exact ⟨ret_bool E.out.symm, X1.out.trans (is_ext _ _)⟩
                  | false =>
                    rw [Bool.not_false, Bool.true_and] at E
                    repeat (go_big_quiet_step ((first | (go_at_call 111; with_reducible exact calls_ext (CI.out _ (X1.out.ext _))) | (go_at_call 111; with_reducible exact calls_ext (CJ.out _ (X1.out.ext _))))))
                    cases p10 with
                    | true =>
                      rw [Bool.not_true, Bool.false_and] at E
                      repeat (go_big_quiet_step ((first | (go_at_call 111; with_reducible exact calls_ext (CI.out _ (X1.out.ext _))) | (go_at_call 111; with_reducible exact calls_ext (CJ.out _ (X1.out.ext _))))))
                      refine wpQuiet_nil ?_
                      rintro W3 ⟨xx, rfl⟩
                      go_wp2_with fail
                      go_ret
                      exact ⟨ret_bool E.out.symm, X1.out.trans (is_ext _ _)⟩
                    | false =>
                      rw [Bool.not_false, Bool.true_and] at E
                      repeat (go_big_quiet_step ((first | (go_at_call 111; with_reducible exact calls_ext (CI.out _ (X1.out.ext _))) | (go_at_call 111; with_reducible exact calls_ext (CJ.out _ (X1.out.ext _))))))
                      refine wpQuiet_nil ?_
                      rintro W3 ⟨xx, hx⟩
                      have hFG : xwait.length = ywait.length := by have := G5.out; simpa using this
                      have hFS : xsnaps.length = ysnaps.length := by have := G10.out; simpa using this
                      rw [← hFG] at HV
                      rw [← hFS] at HZ
                      have X3 : Hid (Ext w W3) := Lib.hid (X1.out.trans ⟨xx, hx⟩)
                      have C1 := Lib.hid (B1.out.ext ⟨xx, hx⟩)
                      have C2 := Lib.hid (B2.out.ext ⟨xx, hx⟩)
                      clear hx B1 B2 X1 r1 r2 r3 s1 s2 s3
                      obtain ⟨r1, r2, r3⟩ := C1.out.rules
                      obtain ⟨s1, s2, s3⟩ := C2.out.rules
                      generalize hm : xwait.length = m at *
                      generalize hk : xsnaps.length = k at *
                      have HM := Lib.hid hFG
                      have HK := Lib.hid hFS
                      clear hFG hFS hm hk h1 h2 h5 h6 h7 h8 h9 h10
                      go_wp2_with fail
                      go_loopw [5] (fun iv wr => ∃ i : Nat, i ≤ m ∧ iv = .int .i64 i ∧ allTo (fun i => eqP (wAt xwait i) (wAt ywait i)) i = true ∧ Ext W3 wr) (fun iv _ => m - (intOf iv).toNat)
                      case atStart => exact ⟨0, Nat.zero_le _, rfl, rfl, Ext.refl _⟩
                      case round =>
                        obtain ⟨i, hi, rfl, ha, xr⟩ := hrel
                        have HA := Lib.hid ha
                        have X := Lib.hid xr
                        have XA := Lib.hid (X3.out.trans xr)
                        have D1 := Lib.hid (C1.out.ext xr)
                        have D2 := Lib.hid (C2.out.ext xr)
                        clear r1 r2 r3 s1 s2 s3 ha xr
                        obtain ⟨r1, r2, r3⟩ := D1.out.rules
                        obtain ⟨s1, s2, s3⟩ := D2.out.rules
                        by_cases hlt : i < m
                        · obtain ⟨b, off, rfl, hb, k0, k1⟩ := HW.out _ XA.out i hlt
                          obtain ⟨b', off', rfl, hb', k0', k1'⟩ := HV.out _ XA.out i hlt
                          have iN : (i : Int) < (m : Int) := by omega
                          have iN' : (i : Int) < (ywait.length : Int) := by have := HM.out; omega
                          have BAD : Hid (eqP (wAt xwait i) (wAt ywait i) = false → res = false) := Lib.hid (fun hf => by rw [E.out, EW.out, AW.out i hlt hf]; rfl)
                          have YES : Hid (eqP (wAt xwait i) (wAt ywait i) = true → allTo (fun i => eqP (wAt xwait i) (wAt ywait i)) (i + 1) = true) := Lib.hid (fun hf => AWS.out i HA.out hf)
                          have EV : Hid (eqP (wAt xwait i) (wAt ywait i) = ((wAt xwait i).1 == (wAt ywait i).1 && (wAt xwait i).2 == (wAt ywait i).2)) := rfl
                          generalize eqP (wAt xwait i) (wAt ywait i) = ev at *
                          generalize wAt xwait i = u at *
                          generalize wAt ywait i = u' at *
                          obtain ⟨uo, un⟩ := u
                          obtain ⟨vo, vn⟩ := u'
                          simp only at k0 k1 k0' k1' EV
                          obtain ⟨p1, h1⟩ : ∃ p, (uo != vo) = p := ⟨_, rfl⟩
                          obtain ⟨p2, h2⟩ : ∃ p, (un != vn) = p := ⟨_, rfl⟩
                          have g1 : (uo == vo) = !p1 := by rw [← h1]; unfold bne; simp
                          have g2 : (un == vn) = !p2 := by rw [← h2]; unfold bne; simp
                          rw [g1, g2] at EV
                          clear g1 g2
                          go_upto_region 6 with (fail)
                          refine wp_region_ext (by kernel_rfl) (by kernel_rfl) ?_
                          repeat (go_big_quiet_step (fail))
                          cases p1 with
                          | true =>
                            have A1 := Lib.hid (BAD.out (by rw [EV.out]; rfl))
                            clear BAD YES
                            repeat (go_big_quiet_step (fail))
                            refine wpQuiet_nil ?_
                            rintro W4 ⟨x4, rfl⟩
                            go_wp2_with fail
                            go_ret
                            exact ⟨ret_bool A1.out.symm, XA.out.trans (is_ext _ _)⟩
                          | false =>
                            repeat (go_big_quiet_step (fail))
                            cases p2 with
                            | true =>
                              have A1 := Lib.hid (BAD.out (by rw [EV.out]; rfl))
                              clear BAD YES
                              repeat (go_big_quiet_step (fail))
                              refine wpQuiet_nil ?_
                              rintro W4 ⟨x4, rfl⟩
                              go_wp2_with fail
                              go_ret
                              exact ⟨ret_bool A1.out.symm, XA.out.trans (is_ext _ _)⟩
                            | false =>
                              have A1 := Lib.hid (YES.out (by rw [EV.out]; rfl))
                              clear BAD YES
                              repeat (go_big_quiet_step (fail))
                              refine wpQuiet_nil ?_
                              rintro W4 ⟨x4, rfl⟩
                              go_wp2_with fail
                              go_roundw
                              case rel => exact ⟨i + 1, by omega, by go_num, A1.out, X.out.trans (is_ext _ _)⟩
                              case measure => simp [intOf]; omega
                        · obtain rfl : i = m := by omega
                          have E2 : Hid (res = bs) := Lib.hid (by rw [E.out, EW.out, HA.out, Bool.true_and])
                          clear E EW AW AWS HA HW HV
                          go_wp2_with fail
                          go_loopw [6] (fun iv wt => ∃ j : Nat, j ≤ k ∧ iv = .int .i64 j ∧ allTo (fun i => (sAt xsnaps i).toList == (sAt ysnaps i).toList) j = true ∧ Ext wr wt) (fun iv _ => k - (intOf iv).toNat)
                          case atStart => exact ⟨0, Nat.zero_le _, rfl, rfl, Ext.refl _⟩
                          case round =>
                            obtain ⟨j, hj, rfl, ha, xt⟩ := hrel
                            have HA := Lib.hid ha
                            have Y := Lib.hid xt
                            have XB := Lib.hid (XA.out.trans xt)
                            have F1 := Lib.hid (D1.out.ext xt)
                            have F2 := Lib.hid (D2.out.ext xt)
                            clear r1 r2 r3 s1 s2 s3 ha xt
                            obtain ⟨r1, r2, r3⟩ := F1.out.rules
                            obtain ⟨s1, s2, s3⟩ := F2.out.rules
                            by_cases hlt : j < k
                            · obtain ⟨b, off, rfl, hb, k0⟩ := HS.out _ XB.out j hlt
                              obtain ⟨b', off', rfl, hb', k0'⟩ := HZ.out _ XB.out j hlt
                              have jN : (j : Int) < (k : Int) := by omega
                              have jN' : (j : Int) < (ysnaps.length : Int) := by have := HK.out; omega
                              have BAD : Hid (((sAt xsnaps j).toList == (sAt ysnaps j).toList) = false → res = false) := Lib.hid (fun hf => by rw [E2.out, ES.out]; exact AN.out j hlt hf)
                              have YES : Hid (((sAt xsnaps j).toList == (sAt ysnaps j).toList) = true → allTo (fun i => (sAt xsnaps i).toList == (sAt ysnaps i).toList) (j + 1) = true) := Lib.hid (fun hf => ANS.out j HA.out hf)
                              generalize sAt xsnaps j = u at *
                              generalize sAt ysnaps j = u' at *
                              obtain ⟨p1, h1⟩ : ∃ p, (!(u.toList == u'.toList)) = p := ⟨_, rfl⟩
                              have g1 : (u.toList == u'.toList) = !p1 := by rw [← h1]; simp
                              rw [g1] at BAD YES
                              clear g1
                              go_upto_region 11 with (fail)
                              refine wp_region_ext (by kernel_rfl) (by kernel_rfl) ?_
                              repeat (go_big_quiet_step (fail))
                              refine wpQuiet_nil ?_
                              rintro W4 ⟨x4, rfl⟩
                              cases p1 with
                              | true =>
                                have A1 := Lib.hid (BAD.out rfl)
                                clear BAD YES
                                go_wp2_with fail
                                go_ret
                                exact ⟨ret_bool A1.out.symm, XB.out.trans (is_ext _ _)⟩
                              | false =>
                                have A1 := Lib.hid (YES.out rfl)
                                clear BAD YES
                                go_wp2_with fail
                                go_roundw
                                case rel => exact ⟨j + 1, by omega, by go_num, A1.out, Y.out.trans (is_ext _ _)⟩
                                case measure => simp [intOf]; omega
                            · obtain rfl : j = k := by omega
                              go_wp2_with fail
                              go_ret
                              exact ⟨ret_bool (by rw [E2.out, ES.out, HA.out]), XB.out⟩
end
end Go.Proofs.Ytadhkmplhgcgkaa.World
