/-
  Few, as one text (a claim has at most 60 files).
-/
import Derived.Test.YtadhkmplhgcgkaaMc33
import Derived.Test.YtadhkmplhgcgkaaMc04
import Derived.Test.YtadhkmplhgcgkaaMc10
import Derived.Deep.DeepCutAuto
namespace Go.Proofs.Ytadhkmplhgcgkaa.World
open Go.RowKit Go.Proofs.Ytadhkmplhgcgkaa.Plain
set_option linter.unusedVariables false
attribute [local go_sem ↓] Go.wp_at_zero Go.wp_at_succ
def fewT (W : PW) (i : Nat) : Bool := !decide ((70 : Int) < ((tAt W.L i).F.length : Int)) && !decide ((250 : Int) < ((tAt W.L i).B.size : Int))
def fewS (W : PW) (i : Nat) : Bool := !decide ((5000 : Int) < ((sAt W.R.snaps i).size : Int))
def fewB (W : PW) (most : Int) : Bool := !decide (most < (W.L.length : Int)) && (!decide (most < (W.dead.length : Int)) && (!decide ((30 : Int) < (W.R.ready.length : Int)) && (!decide ((30 : Int) < (W.R.wait.length : Int)) && (!decide (most < (W.R.due.length : Int)) && (!decide ((5000 : Int) < (W.R.out.size : Int)) && (!decide ((5000 : Int) < (W.R.inp.size : Int)) && (!decide ((30 : Int) < (W.R.snaps.length : Int)) && (allTo (fewT W) W.L.length && allTo (fewS W) W.R.snaps.length))))))))
section
variable {w : World} {x : WV} {W : PW}
set_option maxRecDepth 100000 in
set_option maxHeartbeats 4000000 in
theorem few (h : WorldAt w x W) (most : Int) : Calls Try.prog 17 #[.agg (cellsW W x), .int .i64 most] w fun e w' => e = .returned (.bool (fewB W most)) ∧ Ext w w' := by
  obtain ⟨vL, fs, vD, vRe, vWa, vDu, vSn⟩ := x
  obtain ⟨A1, c1, e1, l1, l1'⟩ := h.L.row.form
  replace e1 : vL = .slice A1 W.L.length c1 := e1
  subst e1
  obtain ⟨A2, c2, e2, l2, l2'⟩ := Row.form h.dead
  replace e2 : vD = .slice A2 W.dead.length c2 := e2
  subst e2
  obtain ⟨A3, c3, e3, l3, l3'⟩ := Row.form h.ready
  replace e3 : vRe = .slice A3 W.R.ready.length c3 := e3
  subst e3
  obtain ⟨A4, c4, e4, l4, l4'⟩ := Row.form h.wait
  replace e4 : vWa = .slice A4 W.R.wait.length c4 := e4
  subst e4
  obtain ⟨A5, c5, e5, l5, l5'⟩ := Row.form h.due
  replace e5 : vDu = .slice A5 W.R.due.length c5 := e5
  subst e5
  obtain ⟨A6, c6, e6, l6, l6'⟩ := Row.form h.snaps
  replace e6 : vSn = .slice A6 W.R.snaps.length c6 := e6
  subst e6
  have HC := Lib.hid (fun (j : Nat) (hj : j < W.L.length) => h.L.cells rfl j hj)
  have HF := Lib.hid (fun (j : Nat) (hj : j < W.L.length) => h.L.flds j hj)
  have HS := Lib.hid (fun (j : Nat) (hj : j < W.R.snaps.length) => Row.at_ h.snaps j hj)
  have HT := Lib.hid (fun (j : Nat) (hj : j < W.L.length) => (h.nums.things (tAt W.L j) (by unfold tAt; rw [List.getD_eq_getElem?_getD, List.getElem?_eq_getElem hj]; exact List.getElem_mem hj)).2.2.2.1)
  have Hout := h.nums.out
  have Hinp := h.nums.inp
  have HSn := Lib.hid (fun (j : Nat) (hj : j < W.R.snaps.length) => (h.nums.snaps (sAt W.R.snaps j) (by unfold sAt; rw [List.getD_eq_getElem?_getD, List.getElem?_eq_getElem hj]; exact List.getElem_mem hj)))
  clear h
  have E : Hid (fewB W most = (!decide (most < (W.L.length : Int)) && (!decide (most < (W.dead.length : Int)) && (!decide ((30 : Int) < (W.R.ready.length : Int)) && (!decide ((30 : Int) < (W.R.wait.length : Int)) && (!decide (most < (W.R.due.length : Int)) && (!decide ((5000 : Int) < (W.R.out.size : Int)) && (!decide ((5000 : Int) < (W.R.inp.size : Int)) && (!decide ((30 : Int) < (W.R.snaps.length : Int)) && (allTo (fewT W) W.L.length && allTo (fewS W) W.R.snaps.length)))))))))) := rfl
  have TF := Lib.hid (allTo_false (fewT W) W.L.length)
  have TS := Lib.hid (allTo_succ (fewT W))
  have SF := Lib.hid (allTo_false (fewS W) W.R.snaps.length)
  have SS := Lib.hid (allTo_succ (fewS W))
  have ET : Hid (∀ i, fewT W i = (!decide ((70 : Int) < ((tAt W.L i).F.length : Int)) && !decide ((250 : Int) < ((tAt W.L i).B.size : Int)))) := Lib.hid (fun i => rfl)
  have ES : Hid (∀ i, fewS W i = !decide ((5000 : Int) < ((sAt W.R.snaps i).size : Int))) := Lib.hid (fun i => rfl)
  generalize fewB W most = res at *
  unfold cellsW
  simp only
  generalize W.L.length = n1 at *
  generalize W.dead.length = n2 at *
  generalize W.R.ready.length = n3 at *
  generalize W.R.wait.length = n4 at *
  generalize W.R.due.length = n5 at *
  generalize W.R.snaps.length = n6 at *
  generalize W.R.out = so at *
  generalize W.R.inp = si at *
  obtain ⟨p1, h1⟩ : ∃ p, decide (most < (n1 : Int)) = p := ⟨_, rfl⟩
  obtain ⟨p2, h2⟩ : ∃ p, decide (most < (n2 : Int)) = p := ⟨_, rfl⟩
  obtain ⟨p3, h3⟩ : ∃ p, decide ((30 : Int) < (n3 : Int)) = p := ⟨_, rfl⟩
  obtain ⟨p4, h4⟩ : ∃ p, decide ((30 : Int) < (n4 : Int)) = p := ⟨_, rfl⟩
  obtain ⟨p5, h5⟩ : ∃ p, decide (most < (n5 : Int)) = p := ⟨_, rfl⟩
  obtain ⟨p6, h6⟩ : ∃ p, decide ((5000 : Int) < (so.size : Int)) = p := ⟨_, rfl⟩
  obtain ⟨p7, h7⟩ : ∃ p, decide ((5000 : Int) < (si.size : Int)) = p := ⟨_, rfl⟩
  obtain ⟨p8, h8⟩ : ∃ p, decide ((30 : Int) < (n6 : Int)) = p := ⟨_, rfl⟩
  rw [h1, h2, h3, h4, h5, h6, h7, h8] at E
  go_enter Try.func17, Try.ntmps17
  go_upto_region 1 with (fail)
  refine wp_name (fun w1 hw => ?_)
  have b0 := Blk.new' hw
  have x0 := (Ext.refl w).alloc' hw
  clear hw
  obtain ⟨r1, r2, r3⟩ := b0.rules
  have B0 := Lib.hid b0
  have X0 := Lib.hid x0
  clear b0 x0
  generalize hqq : w.heap.size = q at *
  have QB := Lib.hid hqq
  clear hqq
  refine wp_region_fixed ?_
  repeat (go_big_quiet_step (fail))
  cases p1 with
  | true =>
    rw [Bool.not_true, Bool.false_and] at E
    repeat (go_big_quiet_step (fail))
    refine wpQuiet_nil ?_
    rintro W3 ⟨xx, rfl⟩
    go_wp2_with fail
    go_ret
    exact ⟨ret_bool E.out.symm, X0.out.trans (is_ext _ _)⟩
  | false =>
    rw [Bool.not_false, Bool.true_and] at E
    repeat (go_big_quiet_step (fail))
    cases p2 with
    | true =>
      rw [Bool.not_true, Bool.false_and] at E
      repeat (go_big_quiet_step (fail))
      refine wpQuiet_nil ?_
      rintro W3 ⟨xx, rfl⟩
      go_wp2_with fail
      go_ret
      exact ⟨ret_bool E.out.symm, X0.out.trans (is_ext _ _)⟩
    | false =>
      rw [Bool.not_false, Bool.true_and] at E
      repeat (go_big_quiet_step (fail))
      cases p3 with
      | true =>
        rw [Bool.not_true, Bool.false_and] at E
        repeat (go_big_quiet_step (fail))
        refine wpQuiet_nil ?_
        rintro W3 ⟨xx, rfl⟩
        go_wp2_with fail
        go_ret
        exact ⟨ret_bool E.out.symm, X0.out.trans (is_ext _ _)⟩
      | false =>
        rw [Bool.not_false, Bool.true_and] at E
        repeat (go_big_quiet_step (fail))
        cases p4 with
        | true =>
          rw [Bool.not_true, Bool.false_and] at E
          repeat (go_big_quiet_step (fail))
          refine wpQuiet_nil ?_
          rintro W3 ⟨xx, rfl⟩
          go_wp2_with fail
          go_ret
          exact ⟨ret_bool E.out.symm, X0.out.trans (is_ext _ _)⟩
        | false =>
          rw [Bool.not_false, Bool.true_and] at E
          repeat (go_big_quiet_step (fail))
          cases p5 with
          | true =>
            rw [Bool.not_true, Bool.false_and] at E
            repeat (go_big_quiet_step (fail))
            refine wpQuiet_nil ?_
            rintro W3 ⟨xx, rfl⟩
            go_wp2_with fail
            go_ret
            exact ⟨ret_bool E.out.symm, X0.out.trans (is_ext _ _)⟩
          | false =>
            rw [Bool.not_false, Bool.true_and] at E
            repeat (go_big_quiet_step (fail))
            cases p6 with
            | true =>
              rw [Bool.not_true, Bool.false_and] at E
              repeat (go_big_quiet_step (fail))
              refine wpQuiet_nil ?_
              rintro W3 ⟨xx, rfl⟩
              go_wp2_with fail
              go_ret
              exact ⟨ret_bool E.out.symm, X0.out.trans (is_ext _ _)⟩
            | false =>
              rw [Bool.not_false, Bool.true_and] at E
              repeat (go_big_quiet_step (fail))
              cases p7 with
              | true =>
                rw [Bool.not_true, Bool.false_and] at E
                repeat (go_big_quiet_step (fail))
                refine wpQuiet_nil ?_
                rintro W3 ⟨xx, rfl⟩
                go_wp2_with fail
                go_ret
                exact ⟨ret_bool E.out.symm, X0.out.trans (is_ext _ _)⟩
              | false =>
                rw [Bool.not_false, Bool.true_and] at E
                repeat (go_big_quiet_step (fail))
                cases p8 with
                | true =>
                  rw [Bool.not_true, Bool.false_and] at E
                  repeat (go_big_quiet_step (fail))
                  refine wpQuiet_nil ?_
                  rintro W3 ⟨xx, rfl⟩
                  go_wp2_with fail
                  go_ret
                  exact ⟨ret_bool E.out.symm, X0.out.trans (is_ext _ _)⟩
                | false =>
                  rw [Bool.not_false, Bool.true_and] at E
                  repeat (go_big_quiet_step (fail))
                  refine wpQuiet_nil ?_
                  rintro W3 ⟨xx, hx⟩
                  have X1 : Hid (Ext w W3) := Lib.hid (X0.out.trans ⟨xx, hx⟩)
                  have B1 := Lib.hid (B0.out.ext ⟨xx, hx⟩)
                  clear hx B0 X0 r1 r2 r3 h1 h2 h3 h4 h5 h6 h7 h8
                  obtain ⟨r1, r2, r3⟩ := B1.out.rules
                  go_wp2_with fail
                  go_loopw [5] (fun iv wr => ∃ i : Nat, i ≤ n1 ∧ iv = .int .i64 i ∧ allTo (fewT W) i = true ∧ Ext W3 wr) (fun iv _ => n1 - (intOf iv).toNat)
                  case atStart => exact ⟨0, Nat.zero_le _, rfl, rfl, Ext.refl _⟩
                  case round =>
                    obtain ⟨i, hi, rfl, ha, xr⟩ := hrel
                    have HA := Lib.hid ha
                    clear ha
                    have XR := Lib.hid xr
                    clear r1 r2 r3
                    obtain ⟨r1, r2, r3⟩ := (B1.out.ext xr).rules
                    by_cases hlt : i < n1
                    · obtain ⟨b, off, rfl, hb, d0, d1, d2, d3, d4, d5⟩ := HC.out i hlt
                      rw [← QB.out] at hb
                      obtain ⟨AF, cF', ef, f1, f2⟩ := Row.form (HF.out i hlt)
                      have ef' : fs i = .slice AF (tAt W.L i).F.length cF' := ef
                      replace d4 : w.cell? ⟨b, off + i * 6 + 4, none⟩ = some (fs i) := d4
                      rw [ef'] at d4
                      have XX := Lib.hid (X1.out.trans xr)
                      replace d4 := (XX.out.below.cell (p := ⟨b, off + i * 6 + 4, none⟩) hb).trans d4
                      replace d5 := (XX.out.below.cell (p := ⟨b, off + i * 6 + 5, none⟩) hb).trans d5
                      have hbr := Nat.lt_of_lt_of_le hb XX.out.below.size
                      have ht := HT.out i hlt
                      have iN : (i : Int) < (n1 : Int) := by omega
                      clear d0 d1 d2 d3 hb xr ef ef'
                      have BAD : Hid (fewT W i = false → res = false) := Lib.hid (fun hf => by rw [E.out, TF.out i hlt hf]; rfl)
                      have YES : Hid (fewT W i = true → allTo (fewT W) (i + 1) = true) := Lib.hid (fun hf => TS.out i HA.out hf)
                      have EV := Lib.hid (ET.out i)
                      generalize (tAt W.L i).F.length = m at *
                      generalize (tAt W.L i).B = sB at *
                      obtain ⟨p1, h1⟩ : ∃ p, decide ((70 : Int) < (m : Int)) = p := ⟨_, rfl⟩
                      obtain ⟨p2, h2⟩ : ∃ p, decide ((250 : Int) < (sB.size : Int)) = p := ⟨_, rfl⟩
                      rw [h1, h2] at EV
                      go_upto_region 6 with (fail)
                      refine wp_region_fixed ?_
                      repeat (go_big_quiet_step (fail))
                      cases p1 with
                      | true =>
                        repeat (go_big_quiet_step (fail))
                        refine wpQuiet_nil ?_
                        rintro W4 ⟨x4, rfl⟩
                        go_wp2_with fail
                        go_ret
                        exact ⟨ret_bool (BAD.out (by rw [EV.out]; rfl)).symm, XX.out.trans (is_ext _ _)⟩
                      | false =>
                        repeat (go_big_quiet_step (fail))
                        cases p2 with
                        | true =>
                          repeat (go_big_quiet_step (fail))
                          refine wpQuiet_nil ?_
                          rintro W4 ⟨x4, rfl⟩
                          go_wp2_with fail
                          go_ret
                          exact ⟨ret_bool (BAD.out (by rw [EV.out]; rfl)).symm, XX.out.trans (is_ext _ _)⟩
                        | false =>
                          repeat (go_big_quiet_step (fail))
                          refine wpQuiet_nil ?_
                          rintro W4 ⟨x4, rfl⟩
                          go_wp2_with fail
                          go_roundw
                          case rel => exact ⟨i + 1, by omega, by go_num, YES.out (by rw [EV.out]; rfl), XR.out.trans (is_ext _ _)⟩
                          case measure => simp [intOf]; omega
                    · obtain rfl : i = n1 := by omega
                      have E2 : Hid (res = allTo (fewS W) n6) := Lib.hid (by rw [E.out, HA.out, Bool.true_and])
                      have X2 := Lib.hid (X1.out.trans xr)
                      have B2 := Lib.hid (B1.out.ext xr)
                      clear xr
                      go_wp2_with fail
                      go_loopw [6] (fun iv w2 => ∃ j : Nat, j ≤ n6 ∧ iv = .int .i64 j ∧ allTo (fewS W) j = true ∧ Ext wr w2) (fun iv _ => n6 - (intOf iv).toNat)
                      case atStart => exact ⟨0, Nat.zero_le _, rfl, rfl, Ext.refl _⟩
                      case round =>
                        obtain ⟨j, hj, rfl, hb2, xs⟩ := hrel
                        have HB := Lib.hid hb2
                        clear hb2
                        have XS := Lib.hid xs
                        have XT := Lib.hid (X2.out.trans xs)
                        clear r1 r2 r3
                        obtain ⟨r1, r2, r3⟩ := (B2.out.ext xs).rules
                        by_cases hlt2 : j < n6
                        · obtain ⟨b, off, rfl, hb, hc⟩ := HS.out j hlt2
                          rw [← QB.out] at hb
                          have c0 := hc 0 (by omega)
                          rw [Nat.mul_one, Nat.add_zero] at c0
                          replace c0 := (XT.out.below.cell (p := ⟨b, off + j, none⟩) hb).trans c0
                          have hbr := Nat.lt_of_lt_of_le hb XT.out.below.size
                          have ht := HSn.out j hlt2
                          have jN : (j : Int) < (n6 : Int) := by omega
                          clear hb hc xs
                          have BAD : Hid (fewS W j = false → res = false) := Lib.hid (fun hf => by rw [E2.out, SF.out j hlt2 hf])
                          have YES : Hid (fewS W j = true → allTo (fewS W) (j + 1) = true) := Lib.hid (fun hf => SS.out j HB.out hf)
                          have EV := Lib.hid (ES.out j)
                          generalize sAt W.R.snaps j = sB at *
                          obtain ⟨p1, h1⟩ : ∃ p, decide ((5000 : Int) < (sB.size : Int)) = p := ⟨_, rfl⟩
                          rw [h1] at EV
                          go_upto_region 11 with (fail)
                          refine wp_region_fixed ?_
                          repeat (go_big_quiet_step (fail))
                          refine wpQuiet_nil ?_
                          rintro W4 ⟨x4, rfl⟩
                          cases p1 with
                          | true =>
                            go_wp2_with fail
                            go_ret
                            exact ⟨ret_bool (BAD.out (by rw [EV.out]; rfl)).symm, XT.out.trans (is_ext _ _)⟩
                          | false =>
                            go_wp2_with fail
                            go_roundw
                            case rel => exact ⟨j + 1, by omega, by go_num, YES.out (by rw [EV.out]; rfl), XS.out.trans (is_ext _ _)⟩
                            case measure => simp [intOf]; omega
                        · obtain rfl : j = n6 := by omega
                          go_wp2_with fail
                          go_ret
                          exact ⟨ret_bool (by rw [E2.out, HB.out]), XT.out⟩
end
end Go.Proofs.Ytadhkmplhgcgkaa.World
