/-
  Few, CanonLawPlain, AllPlain, RefSameW, Told8, OpenWorld, ReachAll, as one text (a claim has at most 60 files).
-/
import Derived.Test.YtadhkmplhgcgkaaFixed
import Derived.Test.YtadhkmplhgcgkaaImage4
import Derived.Test.YtadhkmplhgcgkaaBase4
import Derived.Deep.DeepCutAuto
import Derived.Test.YtadhkmplhgcgkaaCanE
import Derived.Test.YtadhkmplhgcgkaaEqC
import Derived.Test.YtadhkmplhgcgkaaRefB
import Derived.Test.YtadhkmplhgcgkaaRefPlain
import Derived.Test.YtadhkmplhgcgkaaRegInv
import Derived.Test.YtadhkmplhgcgkaaImage
import Derived.Deep.Slices
import Derived.Deep.Fields
import Derived.ProofKit
import Derived.OpenShut
import Derived.Test.YtadhkmplhgcgkaaAwake8
namespace Go.Proofs.Ytadhkmplhgcgkaa.World
open Go.RowKit Go.Proofs.Ytadhkmplhgcgkaa.Plain
set_option linter.unusedVariables false
attribute [local go_sem ↓] Go.wp_at_zero Go.wp_at_succ
def fewT (W : PW) (i : Nat) : Bool := !decide ((70 : Int) < ((tAt W.L i).F.length : Int)) && !decide ((250 : Int) < ((tAt W.L i).B.size : Int))
def fewS (W : PW) (i : Nat) : Bool := !decide ((5000 : Int) < ((sAt W.R.snaps i).size : Int))
def fewB (W : PW) (most : Int) : Bool := !decide (most < (W.L.length : Int)) && (!decide (most < (W.dead.length : Int)) && (!decide ((30 : Int) < (W.R.ready.length : Int)) && (!decide ((30 : Int) < (W.R.wait.length : Int)) && (!decide (most < (W.R.due.length : Int)) && (!decide ((5000 : Int) < (W.R.out.size : Int)) && (!decide ((5000 : Int) < (W.R.inp.size : Int)) && (!decide ((30 : Int) < (W.R.snaps.length : Int)) && (allTo (fewT W) W.L.length && allTo (fewS W) W.R.snaps.length))))))))
section
variable {w : World} {x : WV} {W : PW}
set_option maxRecDepth 100000 in
set_option maxHeartbeats 4000000 in
theorem few (h : WorldAt w x W) (most : Int) : Calls Try.prog 17 #[.agg (cellsW W x), .int .i64 most] w fun e w' => e = .returned (.bool (fewB W most)) ∧ Ext w w' := by
  obtain ⟨vL, fs, vD, vRe, vWa, vDu, vSn⟩ := x
  obtain ⟨A1, c1, e1, l1, l1'⟩ := h.L.row.form
  replace e1 : vL = .slice A1 W.L.length c1 := e1
  subst e1
  obtain ⟨A2, c2, e2, l2, l2'⟩ := Row.form h.dead
  replace e2 : vD = .slice A2 W.dead.length c2 := e2
  subst e2
  obtain ⟨A3, c3, e3, l3, l3'⟩ := Row.form h.ready
  replace e3 : vRe = .slice A3 W.R.ready.length c3 := e3
  subst e3
  obtain ⟨A4, c4, e4, l4, l4'⟩ := Row.form h.wait
  replace e4 : vWa = .slice A4 W.R.wait.length c4 := e4
  subst e4
  obtain ⟨A5, c5, e5, l5, l5'⟩ := Row.form h.due
  replace e5 : vDu = .slice A5 W.R.due.length c5 := e5
  subst e5
  obtain ⟨A6, c6, e6, l6, l6'⟩ := Row.form h.snaps
  replace e6 : vSn = .slice A6 W.R.snaps.length c6 := e6
  subst e6
  have HC := Lib.hid (fun (j : Nat) (hj : j < W.L.length) => h.L.cells rfl j hj)
  have HF := Lib.hid (fun (j : Nat) (hj : j < W.L.length) => h.L.flds j hj)
  have HS := Lib.hid (fun (j : Nat) (hj : j < W.R.snaps.length) => Row.at_ h.snaps j hj)
  have HT := Lib.hid (fun (j : Nat) (hj : j < W.L.length) => (h.nums.things (tAt W.L j) (by unfold tAt; rw [List.getD_eq_getElem?_getD, List.getElem?_eq_getElem hj]; exact List.getElem_mem hj)).2.2.2.1)
  have Hout := h.nums.out
  have Hinp := h.nums.inp
  have HSn := Lib.hid (fun (j : Nat) (hj : j < W.R.snaps.length) => (h.nums.snaps (sAt W.R.snaps j) (by unfold sAt; rw [List.getD_eq_getElem?_getD, List.getElem?_eq_getElem hj]; exact List.getElem_mem hj)))
  clear h
  have E : Hid (fewB W most = (!decide (most < (W.L.length : Int)) && (!decide (most < (W.dead.length : Int)) && (!decide ((30 : Int) < (W.R.ready.length : Int)) && (!decide ((30 : Int) < (W.R.wait.length : Int)) && (!decide (most < (W.R.due.length : Int)) && (!decide ((5000 : Int) < (W.R.out.size : Int)) && (!decide ((5000 : Int) < (W.R.inp.size : Int)) && (!decide ((30 : Int) < (W.R.snaps.length : Int)) && (allTo (fewT W) W.L.length && allTo (fewS W) W.R.snaps.length)))))))))) := rfl
  have TF := Lib.hid (allTo_false (fewT W) W.L.length)
  have TS := Lib.hid (allTo_succ (fewT W))
  have SF := Lib.hid (allTo_false (fewS W) W.R.snaps.length)
  have SS := Lib.hid (allTo_succ (fewS W))
  have ET : Hid (∀ i, fewT W i = (!decide ((70 : Int) < ((tAt W.L i).F.length : Int)) && !decide ((250 : Int) < ((tAt W.L i).B.size : Int)))) := Lib.hid (fun i => rfl)
  have ES : Hid (∀ i, fewS W i = !decide ((5000 : Int) < ((sAt W.R.snaps i).size : Int))) := Lib.hid (fun i => rfl)
  generalize fewB W most = res at *
  unfold cellsW
  simp only
  generalize W.L.length = n1 at *
  generalize W.dead.length = n2 at *
  generalize W.R.ready.length = n3 at *
  generalize W.R.wait.length = n4 at *
  generalize W.R.due.length = n5 at *
  generalize W.R.snaps.length = n6 at *
  generalize W.R.out = so at *
  generalize W.R.inp = si at *
  obtain ⟨p1, h1⟩ : ∃ p, decide (most < (n1 : Int)) = p := ⟨_, rfl⟩
  obtain ⟨p2, h2⟩ : ∃ p, decide (most < (n2 : Int)) = p := ⟨_, rfl⟩
  obtain ⟨p3, h3⟩ : ∃ p, decide ((30 : Int) < (n3 : Int)) = p := ⟨_, rfl⟩
  obtain ⟨p4, h4⟩ : ∃ p, decide ((30 : Int) < (n4 : Int)) = p := ⟨_, rfl⟩
  obtain ⟨p5, h5⟩ : ∃ p, decide (most < (n5 : Int)) = p := ⟨_, rfl⟩
  obtain ⟨p6, h6⟩ : ∃ p, decide ((5000 : Int) < (so.size : Int)) = p := ⟨_, rfl⟩
  obtain ⟨p7, h7⟩ : ∃ p, decide ((5000 : Int) < (si.size : Int)) = p := ⟨_, rfl⟩
  obtain ⟨p8, h8⟩ : ∃ p, decide ((30 : Int) < (n6 : Int)) = p := ⟨_, rfl⟩
  rw [h1, h2, h3, h4, h5, h6, h7, h8] at E
  go_enter Try.func17, Try.ntmps17
  go_upto_region 1 with (fail)
  refine wp_name (fun w1 hw => ?_)
  have b0 := Blk.new' hw
  have x0 := (Ext.refl w).alloc' hw
  clear hw
  obtain ⟨r1, r2, r3⟩ := b0.rules
  have B0 := Lib.hid b0
  have X0 := Lib.hid x0
  clear b0 x0
  generalize hqq : w.heap.size = q at *
  have QB := Lib.hid hqq
  clear hqq
  refine wp_region_fixed ?_
  repeat (go_big_quiet_step (fail))
  cases p1 with
  | true =>
    rw [Bool.not_true, Bool.false_and] at E
    repeat (go_big_quiet_step (fail))
    refine wpQuiet_nil ?_
    rintro W3 ⟨xx, rfl⟩
    go_wp2_with fail
    go_ret
    exact ⟨ret_bool E.out.symm, X0.out.trans (is_ext _ _)⟩
  | false =>
    rw [Bool.not_false, Bool.true_and] at E
    repeat (go_big_quiet_step (fail))
    cases p2 with
    | true =>
      rw [Bool.not_true, Bool.false_and] at E
      repeat (go_big_quiet_step (fail))
      refine wpQuiet_nil ?_
      rintro W3 ⟨xx, rfl⟩
      go_wp2_with fail
      go_ret
      exact ⟨ret_bool E.out.symm, X0.out.trans (is_ext _ _)⟩
    | false =>
      rw [Bool.not_false, Bool.true_and] at E
      repeat (go_big_quiet_step (fail))
      cases p3 with
      | true =>
        rw [Bool.not_true, Bool.false_and] at E
        repeat (go_big_quiet_step (fail))
        refine wpQuiet_nil ?_
        rintro W3 ⟨xx, rfl⟩
        go_wp2_with fail
        go_ret
        exact ⟨ret_bool E.out.symm, X0.out.trans (is_ext _ _)⟩
      | false =>
        rw [Bool.not_false, Bool.true_and] at E
        repeat (go_big_quiet_step (fail))
        cases p4 with
        | true =>
          rw [Bool.not_true, Bool.false_and] at E
          repeat (go_big_quiet_step (fail))
          refine wpQuiet_nil ?_
          rintro W3 ⟨xx, rfl⟩
          go_wp2_with fail
          go_ret
          exact ⟨ret_bool E.out.symm, X0.out.trans (is_ext _ _)⟩
        | false =>
          rw [Bool.not_false, Bool.true_and] at E
          repeat (go_big_quiet_step (fail))
          cases p5 with
          | true =>
            rw [Bool.not_true, Bool.false_and] at E
            repeat (go_big_quiet_step (fail))
            refine wpQuiet_nil ?_
            rintro W3 ⟨xx, rfl⟩
            go_wp2_with fail
            go_ret
            exact ⟨ret_bool E.out.symm, X0.out.trans (is_ext _ _)⟩
          | false =>
            rw [Bool.not_false, Bool.true_and] at E
            repeat (go_big_quiet_step (fail))
            cases p6 with
            | true =>
              rw [Bool.not_true, Bool.false_and] at E
              repeat (go_big_quiet_step (fail))
              refine wpQuiet_nil ?_
              rintro W3 ⟨xx, rfl⟩
              go_wp2_with fail
              go_ret
              exact ⟨ret_bool E.out.symm, X0.out.trans (is_ext _ _)⟩
            | false =>
              rw [Bool.not_false, Bool.true_and] at E
              repeat (go_big_quiet_step (fail))
              cases p7 with
              | true =>
                rw [Bool.not_true, Bool.false_and] at E
                repeat (go_big_quiet_step (fail))
                refine wpQuiet_nil ?_
                rintro W3 ⟨xx, rfl⟩
                go_wp2_with fail
                go_ret
                exact ⟨ret_bool E.out.symm, X0.out.trans (is_ext _ _)⟩
              | false =>
                rw [Bool.not_false, Bool.true_and] at E
                repeat (go_big_quiet_step (fail))
                cases p8 with
                | true =>
                  rw [Bool.not_true, Bool.false_and] at E
                  repeat (go_big_quiet_step (fail))
                  refine wpQuiet_nil ?_
                  rintro W3 ⟨xx, rfl⟩
                  go_wp2_with fail
                  go_ret
                  exact ⟨ret_bool E.out.symm, X0.out.trans (is_ext _ _)⟩
                | false =>
                  rw [Bool.not_false, Bool.true_and] at E
                  repeat (go_big_quiet_step (fail))
                  refine wpQuiet_nil ?_
                  rintro W3 ⟨xx, hx⟩
                  have X1 : Hid (Ext w W3) := Lib.hid (X0.out.trans ⟨xx, hx⟩)
                  have B1 := Lib.hid (B0.out.ext ⟨xx, hx⟩)
                  clear hx B0 X0 r1 r2 r3 h1 h2 h3 h4 h5 h6 h7 h8
                  obtain ⟨r1, r2, r3⟩ := B1.out.rules
                  go_wp2_with fail
                  go_loopw [5] (fun iv wr => ∃ i : Nat, i ≤ n1 ∧ iv = .int .i64 i ∧ allTo (fewT W) i = true ∧ Ext W3 wr) (fun iv _ => n1 - (intOf iv).toNat)
                  case atStart => exact ⟨0, Nat.zero_le _, rfl, rfl, Ext.refl _⟩
                  case round =>
                    obtain ⟨i, hi, rfl, ha, xr⟩ := hrel
                    have HA := Lib.hid ha
                    clear ha
                    have XR := Lib.hid xr
                    clear r1 r2 r3
                    obtain ⟨r1, r2, r3⟩ := (B1.out.ext xr).rules
                    by_cases hlt : i < n1
                    · obtain ⟨b, off, rfl, hb, d0, d1, d2, d3, d4, d5⟩ := HC.out i hlt
                      rw [← QB.out] at hb
                      obtain ⟨AF, cF', ef, f1, f2⟩ := Row.form (HF.out i hlt)
                      have ef' : fs i = .slice AF (tAt W.L i).F.length cF' := ef
                      replace d4 : w.cell? ⟨b, off + i * 6 + 4, none⟩ = some (fs i) := d4
                      rw [ef'] at d4
                      have XX := Lib.hid (X1.out.trans xr)
                      replace d4 := (XX.out.below.cell (p := ⟨b, off + i * 6 + 4, none⟩) hb).trans d4
                      replace d5 := (XX.out.below.cell (p := ⟨b, off + i * 6 + 5, none⟩) hb).trans d5
                      have hbr := Nat.lt_of_lt_of_le hb XX.out.below.size
                      have ht := HT.out i hlt
                      have iN : (i : Int) < (n1 : Int) := by omega
                      clear d0 d1 d2 d3 hb xr ef ef'
                      have BAD : Hid (fewT W i = false → res = false) := Lib.hid (fun hf => by rw [E.out, TF.out i hlt hf]; rfl)
                      have YES : Hid (fewT W i = true → allTo (fewT W) (i + 1) = true) := Lib.hid (fun hf => TS.out i HA.out hf)
                      have EV := Lib.hid (ET.out i)
                      generalize (tAt W.L i).F.length = m at *
                      generalize (tAt W.L i).B = sB at *
                      obtain ⟨p1, h1⟩ : ∃ p, decide ((70 : Int) < (m : Int)) = p := ⟨_, rfl⟩
                      obtain ⟨p2, h2⟩ : ∃ p, decide ((250 : Int) < (sB.size : Int)) = p := ⟨_, rfl⟩
                      rw [h1, h2] at EV
                      go_upto_region 6 with (fail)
                      refine wp_region_fixed ?_
                      repeat (go_big_quiet_step (fail))
                      cases p1 with
                      | true =>
                        repeat (go_big_quiet_step (fail))
                        refine wpQuiet_nil ?_
                        rintro W4 ⟨x4, rfl⟩
                        go_wp2_with fail
                        go_ret
                        exact ⟨ret_bool (BAD.out (by rw [EV.out]; rfl)).symm, XX.out.trans (is_ext _ _)⟩
                      | false =>
                        repeat (go_big_quiet_step (fail))
                        cases p2 with
                        | true =>
                          repeat (go_big_quiet_step (fail))
                          refine wpQuiet_nil ?_
                          rintro W4 ⟨x4, rfl⟩
                          go_wp2_with fail
                          go_ret
                          exact ⟨ret_bool (BAD.out (by rw [EV.out]; rfl)).symm, XX.out.trans (is_ext _ _)⟩
                        | false =>
                          repeat (go_big_quiet_step (fail))
                          refine wpQuiet_nil ?_
                          rintro W4 ⟨x4, rfl⟩
                          go_wp2_with fail
                          go_roundw
                          case rel => exact ⟨i + 1, by omega, by go_num, YES.out (by rw [EV.out]; rfl), XR.out.trans (is_ext _ _)⟩
                          case measure => simp [intOf]; omega
                    · obtain rfl : i = n1 := by omega
                      have E2 : Hid (res = allTo (fewS W) n6) := Lib.hid (by rw [E.out, HA.out, Bool.true_and])
                      have X2 := Lib.hid (X1.out.trans xr)
                      have B2 := Lib.hid (B1.out.ext xr)
                      clear xr
                      go_wp2_with fail
                      go_loopw [6] (fun iv w2 => ∃ j : Nat, j ≤ n6 ∧ iv = .int .i64 j ∧ allTo (fewS W) j = true ∧ Ext wr w2) (fun iv _ => n6 - (intOf iv).toNat)
                      case atStart => exact ⟨0, Nat.zero_le _, rfl, rfl, Ext.refl _⟩
                      case round =>
                        obtain ⟨j, hj, rfl, hb2, xs⟩ := hrel
                        have HB := Lib.hid hb2
                        clear hb2
                        have XS := Lib.hid xs
                        have XT := Lib.hid (X2.out.trans xs)
                        clear r1 r2 r3
                        obtain ⟨r1, r2, r3⟩ := (B2.out.ext xs).rules
                        by_cases hlt2 : j < n6
                        · obtain ⟨b, off, rfl, hb, hc⟩ := HS.out j hlt2
                          rw [← QB.out] at hb
                          have c0 := hc 0 (by omega)
                          rw [Nat.mul_one, Nat.add_zero] at c0
                          replace c0 := (XT.out.below.cell (p := ⟨b, off + j, none⟩) hb).trans c0
                          have hbr := Nat.lt_of_lt_of_le hb XT.out.below.size
                          have ht := HSn.out j hlt2
                          have jN : (j : Int) < (n6 : Int) := by omega
                          clear hb hc xs
                          have BAD : Hid (fewS W j = false → res = false) := Lib.hid (fun hf => by rw [E2.out, SF.out j hlt2 hf])
                          have YES : Hid (fewS W j = true → allTo (fewS W) (j + 1) = true) := Lib.hid (fun hf => SS.out j HB.out hf)
                          have EV := Lib.hid (ES.out j)
                          generalize sAt W.R.snaps j = sB at *
                          obtain ⟨p1, h1⟩ : ∃ p, decide ((5000 : Int) < (sB.size : Int)) = p := ⟨_, rfl⟩
                          rw [h1] at EV
                          go_upto_region 11 with (fail)
                          refine wp_region_fixed ?_
                          repeat (go_big_quiet_step (fail))
                          refine wpQuiet_nil ?_
                          rintro W4 ⟨x4, rfl⟩
                          cases p1 with
                          | true =>
                            go_wp2_with fail
                            go_ret
                            exact ⟨ret_bool (BAD.out (by rw [EV.out]; rfl)).symm, XT.out.trans (is_ext _ _)⟩
                          | false =>
                            go_wp2_with fail
                            go_roundw
                            case rel => exact ⟨j + 1, by omega, by go_num, YES.out (by rw [EV.out]; rfl), XS.out.trans (is_ext _ _)⟩
                            case measure => simp [intOf]; omega
                        · obtain rfl : j = n6 := by omega
                          go_wp2_with fail
                          go_ret
                          exact ⟨ret_bool (by rw [E2.out, HB.out]), XT.out⟩
end
end Go.Proofs.Ytadhkmplhgcgkaa.World
namespace Go.Proofs.Ytadhkmplhgcgkaa.World
open Go.RowKit Go.Proofs.Ytadhkmplhgcgkaa.Plain
set_option linter.unusedVariables false
theorem eqInts_refl (l : List Int) : eqInts l l = true := by
  unfold eqInts
  rw [decide_eq_true rfl, Bool.true_and, allTo_iff]
  intro i _; exact beq_self_eq_true _
theorem eqP_refl (u : Int × Int) : eqP u u = true := by unfold eqP; simp
theorem eqPV_refl (u : PV) : eqPV u u = true := by unfold eqPV; simp
theorem eqFs_refl (l : List PV) : eqFs l l = true := by
  unfold eqFs
  rw [decide_eq_true rfl, Bool.true_and, allTo_iff]
  intro i _; exact eqPV_refl _
theorem eqT_refl (t : PT) : eqT t t = true := by
  unfold eqT
  rw [eqFs_refl, bytes_refl]; simp
theorem eqL_refl (L : List PT) : eqL L L = true := by
  unfold eqL
  rw [decide_eq_true rfl, Bool.true_and, allTo_iff]
  intro i _; exact eqT_refl _
theorem eqStrs_refl (l : List ByteArray) : eqStrs l l = true := by
  unfold eqStrs
  rw [decide_eq_true rfl, Bool.true_and, allTo_iff]
  intro i _; exact bytes_refl _
theorem eqWaits_refl (l : List (Int × Int)) : eqWaits l l = true := by
  unfold eqWaits
  rw [decide_eq_true rfl, Bool.true_and, allTo_iff]
  intro i _; exact eqP_refl _
theorem eqR_refl (R : PR) : eqR R R = true := by
  have hw : wtsB R R = true := by unfold wtsB; rw [allTo_iff]; intro i _; exact eqP_refl _
  have hs : snsB R R = true := by unfold snsB; rw [allTo_iff]; intro i _; exact beq_self_eq_true _
  unfold eqR
  rw [eqInts_refl, eqInts_refl, hw, hs]; simp
theorem eqE_refl (A : PW) : eqE A A = true := by
  have h : allTo (eqThB A A) A.L.length = true := by
    rw [allTo_iff]; intro i _; unfold eqThB; rw [eqT_refl]; simp
  unfold eqE
  rw [h, eqR_refl]; simp
theorem eqW_refl (A : PW) : eqW A A = true := by
  unfold eqW
  rw [eqL_refl, eqInts_refl, eqInts_refl, eqWaits_refl, eqStrs_refl, bytes_refl, bytes_refl]; simp
/-- a thing is put behind, in memory -/
theorem NewW.push {w w6 : World} {base : Nat} {W : PW} {x : WV} {t : PT} {v' vF : Value} (h : NewW w base W x) (KW : Keep (fun j => x.L.ownBlock = some j) w w6)
    (o6 : w6.ownsRow base 57 6 v' (W.L.length + 1) (flat W.L.length 6 (cL W.L x.fs) ++ [.int .i64 t.cls, .int .i64 t.fmt, .int .i64 t.hash, .bool t.fin, vF, .string t.B]))
    (OW : Own w base 37 vF t.F.length 2 (cF t.F)) (hap : ∀ q, q < W.L.length → Apart vF (x.fs q)) (hn : in64 t.cls ∧ in64 t.fmt ∧ in64 t.hash ∧ t.B.size ≤ maxLen ∧ ∀ v ∈ t.F, in64 v.n) :
    NewW w6 base { W with L := W.L ++ [t] } { x with L := v', fs := fun i => if i = W.L.length then vF else x.fs i } := by
  have KT6 : KT [57] w w6 := Keep.mono KW (fun j hj => by obtain ⟨_, cs, hb⟩ := h.L.block hj; exact ⟨_, _, by simp, hb⟩)
  have hl : (W.L ++ [t]).length = W.L.length + 1 := by simp
  have L6 : Own w6 base 57 v' (W.L ++ [t]).length 6 (cL (W.L ++ [t]) (fun i => if i = W.L.length then vF else x.fs i)) := by
    show w6.ownsRow _ _ _ _ _ _
    have e1 : (List.range 6).map (cL (W.L ++ [t]) (fun i => if i = W.L.length then vF else x.fs i) W.L.length) = [.int .i64 t.cls, .int .i64 t.fmt, .int .i64 t.hash, .bool t.fin, vF, .string t.B] := by
      rw [show List.range 6 = [0, 1, 2, 3, 4, 5] from rfl]
      simp only [List.map_cons, List.map_nil, cL, cT, if_true, tAt_push W.L t W.L.length (by omega)]
    have e2 : flat W.L.length 6 (cL (W.L ++ [t]) (fun i => if i = W.L.length then vF else x.fs i)) = flat W.L.length 6 (cL W.L x.fs) := flat_congr (fun i j hi => by simp only [cL]; rw [if_neg (by omega), tAt_push W.L t i (by omega), if_neg (by omega)])
    rw [hl, flat_succ, e1, e2]
    exact o6
  refine ⟨L6, fun q hq => ?_, fun q p hq hp => ?_, h.dead.kt KT6 (by decide), h.R.kt KT6 (by decide) (by decide) (by decide), ?_⟩
  · have hq : q < W.L.length + 1 := by have := hq; simpa using this
    show Own _ _ _ (if q = W.L.length then _ else _) (tAt (W.L ++ [t]) q).F.length 2 (cF (tAt (W.L ++ [t]) q).F)
    rw [tAt_push W.L t q hq]
    by_cases e : q = W.L.length
    · rw [if_pos e, if_pos e]; exact OW.kt KT6 (by decide)
    · rw [if_neg e, if_neg e]; exact (h.fs q (by omega)).kt KT6 (by decide)
  · have hq : q < W.L.length + 1 := by have := hq; simpa using this
    show Apart (if q = W.L.length then _ else _) (if p = W.L.length then _ else _)
    rw [if_neg (by omega : p ≠ W.L.length)]
    by_cases e : q = W.L.length
    · rw [if_pos e]; exact hap p (by omega)
    · rw [if_neg e]; exact h.ap q p (by omega) hp
  · have n := h.nums
    exact ⟨n.last, n.proc, n.frame, n.how, n.exit, n.out, n.inp, n.ready, n.due, n.wait, n.snaps, fun u hu => by
      rcases List.mem_append.1 hu with hu | hu
      · exact n.things u hu
      · rw [List.mem_singleton.1 hu]; exact hn⟩
/-- one more of the dead -/
theorem NewW.pushD {w w6 : World} {base : Nat} {W : PW} {x : WV} {v' : Value} (h : NewW w base W x) (KW : Keep (fun j => x.dead.ownBlock = some j) w w6)
    (o6 : w6.ownsRow base 4 1 v' (W.dead.length + 1) (flat W.dead.length 1 (cB W.dead) ++ [.bool false])) :
    NewW w6 base { W with dead := W.dead ++ [false] } { x with dead := v' } := by
  have KT6 : KT [4] w w6 := Keep.mono KW (fun j hj => by obtain ⟨_, cs, hb⟩ := h.dead.block hj; exact ⟨_, _, by simp, hb⟩)
  have n := h.nums
  refine ⟨h.L.kt KT6 (by decide), fun q hq => (h.fs q hq).kt KT6 (by decide), h.ap, ?_, h.R.kt KT6 (by decide) (by decide) (by decide), ⟨n.last, n.proc, n.frame, n.how, n.exit, n.out, n.inp, n.ready, n.due, n.wait, n.snaps, n.things⟩⟩
  show w6.ownsRow _ _ _ _ _ _
  have hl : (W.dead ++ [false]).length = W.dead.length + 1 := by simp
  have e1 : (List.range 1).map (cB (W.dead ++ [false]) W.dead.length) = [.bool false] := by
    rw [show List.range 1 = [0] from rfl]
    simp [cB]
  have e2 : flat W.dead.length 1 (cB (W.dead ++ [false])) = flat W.dead.length 1 (cB W.dead) := flat_congr (fun i j hi => by
    unfold cB
    rw [List.getD_eq_getElem?_getD, List.getElem?_append_left hi, List.getD_eq_getElem?_getD])
  show w6.ownsRow _ _ _ _ (W.dead ++ [false]).length (flat (W.dead ++ [false]).length 1 _)
  rw [hl, flat_succ, e1, e2]
  exact o6
/-- another last number -/
theorem NewW.last {w : World} {base : Nat} {W : PW} {x : WV} (h : NewW w base W x) (n : Int) (hn : in64 n) : NewW w base { W with last := n } x :=
  have m := h.nums
  ⟨h.L, h.fs, h.ap, h.dead, h.R, ⟨hn, m.proc, m.frame, m.how, m.exit, m.out, m.inp, m.ready, m.due, m.wait, m.snaps, m.things⟩⟩
/-- what the first loop finds -/
structure Found (W : PW) (la ls : List Bool) : Prop where
  sa : ∀ i, i < W.L.length → sB ls i = true → sB la i = true
  lv : ∀ i, i < W.L.length → sB la i = true → liveB W (i : Int) = true
  up : ∀ i, i < W.L.length → rankL la (i + 1) = rankL la i + (if sB la i = true then 1 else 0)
  ln : (canonW W la).L.length = rankL la W.L.length
theorem found {W : PW} {la ls : List Bool} (hc : checkB W = true) (ha : RchL W.L.length (nxW W true) (rootsOf W.R) la) (hs : RchL W.L.length (nxW W false) (rootsOf W.R) ls) : Found W la ls := by
  refine ⟨fun i hi h => (ha.2 i).2 (rch_weak ((hs.2 i).1 h)), fun i hi h => rch_live hc ((ha.2 i).1 h), fun i hi => rankL_succ la i (by rw [ha.1]; exact hi), CanW.clen ⟨hc, ha⟩⟩
end Go.Proofs.Ytadhkmplhgcgkaa.World
namespace Go.Proofs.Ytadhkmplhgcgkaa.World
open Go.RowKit Go.Proofs.Ytadhkmplhgcgkaa.Plain
set_option linter.unusedVariables false
theorem bytes_lists (s t : ByteArray) : (s.toList == t.toList) = (s == t) := (beq_toListBytes s t).symm
theorem live_none {W : PW} (h : W.dead = []) (i : Nat) : liveB W (i : Int) = decide (i < W.L.length) := by
  unfold liveB
  rw [h]
  simp
theorem eq_WE {A B : PW} (ha : A.dead = []) (hb : B.dead = []) : eqW A B = eqE A B := by
  rw [Bool.eq_iff_iff]
  unfold eqW eqE eqR eqL eqWaits eqStrs wtsB snsB
  simp only [Bool.and_eq_true, decide_eq_true_eq, allTo_iff, bytes_lists]
  constructor
  · rintro ⟨h1, h2, h3, h4, h5, h6, h7, ⟨h8, h9⟩, h10, ⟨h11, h12⟩, h13, h14, h15⟩
    refine ⟨h8, h1, ⟨h2, h3, h10, h13, h11, h4, h5, h6, h7, h14, h12, h15⟩, fun i hi => ?_⟩
    unfold eqThB
    rw [h9 i hi, live_none ha, live_none hb, h8]
    simp
  · rintro ⟨h8, h1, ⟨h2, h3, h10, h13, h11, h4, h5, h6, h7, h14, h12, h15⟩, h9⟩
    refine ⟨h1, h2, h3, h4, h5, h6, h7, ⟨h8, fun i hi => ?_⟩, h10, ⟨h11, h12⟩, h13, h14, h15⟩
    have q := h9 i hi
    unfold eqThB at q
    rw [Bool.and_eq_true] at q
    exact q.1
theorem eqBools_refl (l : List Bool) : eqBools l l = true := by
  unfold eqBools
  rw [decide_eq_true rfl, Bool.true_and, allTo_iff]
  intro i _; exact beq_self_eq_true _
end Go.Proofs.Ytadhkmplhgcgkaa.World
namespace Go.Proofs.Ytadhkmplhgcgkaa.World
open Go.RowKit Go.Proofs.Ytadhkmplhgcgkaa.Plain
set_option linter.unusedVariables false
attribute [local go_sem ↓] Go.wp_at_zero Go.wp_at_succ
/-- what Same answers -/
def SameQ (A B : PW) (r : Bool) : Prop := (checkB A = false → r = false) ∧ (checkB B = false → r = false) ∧ (checkB A = true → checkB B = true → ∃ la lb, RchL A.L.length (nxW A true) (rootsOf A.R) la ∧ RchL B.L.length (nxW B true) (rootsOf B.R) lb ∧ r = eqW (canonW A la) (canonW B lb))
theorem SameQ.uniq {A B : PW} {r r' : Bool} (h : SameQ A B r) (h' : SameQ A B r') : r = r' := by
  cases ha : checkB A with
  | false => rw [h.1 ha, h'.1 ha]
  | true =>
    cases hb : checkB B with
    | false => rw [h.2.1 hb, h'.2.1 hb]
    | true =>
      obtain ⟨la, lb, r1, r2, e⟩ := h.2.2 ha hb
      obtain ⟨la', lb', r1', r2', e'⟩ := h'.2.2 ha hb
      rw [e, e', r1.uniq r1', r2.uniq r2']
theorem SameQ.self {A : PW} {r : Bool} (hc : checkB A = true) (h : SameQ A A r) : r = true := by
  obtain ⟨la, lb, r1, r2, e⟩ := h.2.2 hc hc
  rw [e, r1.uniq r2]; exact eqW_refl _
theorem SameQ.no {A : PW} {r : Bool} (hc : checkB A = false) {B : PW} (h : SameQ A B r) : r = false := h.1 hc
theorem SameQ.mk {A B : PW} (ha : checkB A = true) (hb : checkB B = true) {la lb : List Bool} (r1 : RchL A.L.length (nxW A true) (rootsOf A.R) la) (r2 : RchL B.L.length (nxW B true) (rootsOf B.R) lb) : SameQ A B (eqE (canonW A la) (canonW B lb)) :=
  ⟨fun h => absurd h (by rw [ha]; decide), fun h => absurd h (by rw [hb]; decide), fun _ _ => ⟨la, lb, r1, r2, (eq_WE rfl rfl).symm⟩⟩
theorem same_q {w : World} {x y : WV} {A B : PW} (hA : WorldAt w x A) (hB : WorldAt w y B) : Calls Try.prog 26 #[.agg (cellsW A x), .agg (cellsW B y)] w fun e w' => ∃ r, e = .returned (.bool r) ∧ SameQ A B r ∧ Ext w w' :=
  (same_ hA hB).mono (fun e w' h => by obtain ⟨r, e1, h1, h2, h3, x⟩ := h; exact ⟨r, e1, ⟨h1, h2, h3⟩, x⟩)
theorem canon_i {w : World} {x : WV} {A : PW} (h : WorldAt w x A) (hc : checkB A = true) : Calls Try.prog 14 #[.agg (cellsW A x)] w fun e w' => ∃ l x, e = .returned (.agg (cellsW (canonW A l) x)) ∧ RchL A.L.length (nxW A true) (rootsOf A.R) l ∧ WorldAt w' x (canonW A l) ∧ Ext w w' :=
  (canonP h hc).mono (fun e w' h => by obtain ⟨cs, e1, ⟨l, x, r1, e2, n⟩, xx⟩ := h; subst e2; exact ⟨l, x, e1, r1, n.at_, xx⟩)
theorem rcanon_i {w : World} {x : WV} {A : PW} (h : WorldAt w x A) (hc : checkB A = true) : Calls Try.prog 65 #[.agg (cellsW A x)] w fun e w' => ∃ l x, e = .returned (.agg (cellsW (canonW A l) x)) ∧ RchL A.L.length (nxW A true) (rootsOf A.R) l ∧ WorldAt w' x (canonW A l) ∧ Ext w w' :=
  (rcanon h hc).mono (fun e w' h => by obtain ⟨cs, e1, ⟨l, x, r1, e2, n⟩, xx⟩ := h; subst e2; exact ⟨l, x, e1, r1, n.at_, xx⟩)
structure RS8 (w0 : World) (q q3 : Nat) (cw cx : Array Value) (W X : PW) (L : Nat → Bool) (s : Nat → Value) (w : World) : Prop where
  x : Ext w0 w
  bq : Blk w q 31 cw
  b3 : Blk w q3 31 cx
  v0 : L 0 = true → s 5 = .agg cw
  v1 : L 1 = true → s 6 = .bool true
  v2 : L 2 = true → s 7 = .bool true
  v3 : L 3 = true → s 8 = .agg cx
  v4 : L 4 = true → s 9 = .bool true
  v5 : L 5 = true → s 10 = .bool true
  v6 : L 6 = true → s 11 = .bool true
  v7 : L 7 = true → s 12 = .agg cw
  v8 : L 8 = true → ∃ l x, s 13 = .agg (cellsW (canonW W l) x) ∧ RchL W.L.length (nxW W true) (rootsOf W.R) l ∧ WorldAt w x (canonW W l)
  v9 : L 9 = true → s 14 = .agg cx
  v10 : L 10 = true → ∃ l x, s 15 = .agg (cellsW (canonW X l) x) ∧ RchL X.L.length (nxW X true) (rootsOf X.R) l ∧ WorldAt w x (canonW X l)
  v11 : L 11 = true → ∃ r, s 16 = .bool r ∧ SameQ W X r
  v12 : L 12 = true → ∃ r, s 17 = .bool r ∧ SameQ W X r
  v13 : L 13 = true → ∃ r, s 4 = .bool r ∧ SameQ W X r
theorem RS8.ext {w w' : World} {w0 : World} {q q3 : Nat} {cw cx : Array Value} {W X : PW} {L : Nat → Bool} {s : Nat → Value} (I : RS8 w0 q q3 cw cx W X L s w) (y : Ext w w') : RS8 w0 q q3 cw cx W X L s w' := by
  refine ⟨I.x.trans y, I.bq.ext y, I.b3.ext y, I.v0, I.v1, I.v2, I.v3, I.v4, I.v5, I.v6, I.v7, fun h => ?_, I.v9, fun h => ?_, fun h => ?_, fun h => ?_, fun h => ?_⟩
  · obtain ⟨l, x, e, r, h⟩ := I.v8 h; exact ⟨l, x, e, r, h.ext y⟩
  · obtain ⟨l, x, e, r, h⟩ := I.v10 h; exact ⟨l, x, e, r, h.ext y⟩
  · exact I.v11 h
  · exact I.v12 h
  · exact I.v13 h
def frRS8 (q q3 : Nat) (u s : Nat → Value) : Act := { tmps := #[u 0, u 1, .pointer (some ⟨q, 0, none⟩), .pointer (some ⟨q3, 0, none⟩), s 4, s 5, s 6, s 7, s 8, s 9, s 10, s 11, s 12, s 13, s 14, s 15, s 16, s 17], defers := [] }
def RS8Inv (w0 : World) (q q3 : Nat) (cw cx : Array Value) (W X : PW) (u : Nat → Value) (listed : Array Bool) (a : Act) (w : World) : Prop :=
  ∃ L : Nat → Bool, (∀ k, listed.getD k false = L k) ∧ ∃ s : Nat → Value, a = frRS8 q q3 u s ∧ listed.size = 14 ∧ RS8 w0 q q3 cw cx W X L s w
section
variable {w : World} {x y : WV} {W X : PW}
set_option maxRecDepth 100000 in
set_option maxHeartbeats 8000000 in
theorem rsame (hA : WorldAt w x W) (hB : WorldAt w y X) : Calls Try.prog 66 #[.agg (cellsW W x), .agg (cellsW X y)] w fun e w' => ∃ r, e = .returned (.bool r) ∧ SameQ W X r ∧ Ext w w' := by
  have CA := Lib.hid (fun W2 (z : Ext w W2) => check7 (hA.ext z))
  have CB := Lib.hid (fun W2 (z : Ext w W2) => check7 (hB.ext z))
  have CCA := Lib.hid (fun W2 (z : Ext w W2) (hc : checkB W = true) => rcanon_i (hA.ext z) hc)
  have CCB := Lib.hid (fun W2 (z : Ext w W2) (hc : checkB X = true) => rcanon_i (hB.ext z) hc)
  have HA := Lib.hid hA
  have HB := Lib.hid hB
  obtain ⟨avL, afs, avD, avRe, avWa, avDu, avSn⟩ := x
  obtain ⟨bvL, bfs, bvD, bvRe, bvWa, bvDu, bvSn⟩ := y
  obtain ⟨aL, aL', eaL, _, _⟩ := hA.L.row.form
  replace eaL : avL = .slice aL W.L.length aL' := eaL
  subst eaL
  obtain ⟨aD, aD', eaD, _, _⟩ := Row.form hA.dead
  replace eaD : avD = .slice aD W.dead.length aD' := eaD
  subst eaD
  obtain ⟨aRe, aRe', eaRe, _, _⟩ := Row.form hA.ready
  replace eaRe : avRe = .slice aRe W.R.ready.length aRe' := eaRe
  subst eaRe
  obtain ⟨aWa, aWa', eaWa, _, _⟩ := Row.form hA.wait
  replace eaWa : avWa = .slice aWa W.R.wait.length aWa' := eaWa
  subst eaWa
  obtain ⟨aDu, aDu', eaDu, _, _⟩ := Row.form hA.due
  replace eaDu : avDu = .slice aDu W.R.due.length aDu' := eaDu
  subst eaDu
  obtain ⟨aSn, aSn', eaSn, _, _⟩ := Row.form hA.snaps
  replace eaSn : avSn = .slice aSn W.R.snaps.length aSn' := eaSn
  subst eaSn
  obtain ⟨bL, bL', ebL, _, _⟩ := hB.L.row.form
  replace ebL : bvL = .slice bL X.L.length bL' := ebL
  subst ebL
  obtain ⟨bD, bD', ebD, _, _⟩ := Row.form hB.dead
  replace ebD : bvD = .slice bD X.dead.length bD' := ebD
  subst ebD
  obtain ⟨bRe, bRe', ebRe, _, _⟩ := Row.form hB.ready
  replace ebRe : bvRe = .slice bRe X.R.ready.length bRe' := ebRe
  subst ebRe
  obtain ⟨bWa, bWa', ebWa, _, _⟩ := Row.form hB.wait
  replace ebWa : bvWa = .slice bWa X.R.wait.length bWa' := ebWa
  subst ebWa
  obtain ⟨bDu, bDu', ebDu, _, _⟩ := Row.form hB.due
  replace ebDu : bvDu = .slice bDu X.R.due.length bDu' := ebDu
  subst ebDu
  obtain ⟨bSn, bSn', ebSn, _, _⟩ := Row.form hB.snaps
  replace ebSn : bvSn = .slice bSn X.R.snaps.length bSn' := ebSn
  subst ebSn
  simp only [cellsW] at CA CB CCA CCB ⊢
  clear hA hB
  go_enter Try.func66, Try.ntmps66
  go_upto_region 1 with (fail)
  refine wp_name (fun w1 hw => ?_)
  have b0 : Blk w1 w.heap.size 31 #[.slice aL W.L.length aL', .slice aD W.dead.length aD', .int .i64 W.last, .int .i64 W.R.proc, .int .i64 W.R.frame, .slice aRe W.R.ready.length aRe', .slice aWa W.R.wait.length aWa', .slice aDu W.R.due.length aDu', .string W.R.out, .string W.R.inp, .int .i64 W.R.how, .int .i64 W.R.exit, .slice aSn W.R.snaps.length aSn'] := by rw [hw]; exact (Blk.new w _ _).alloc _
  have b3 : Blk w1 (w.heap.size + 1) 31 #[.slice bL X.L.length bL', .slice bD X.dead.length bD', .int .i64 X.last, .int .i64 X.R.proc, .int .i64 X.R.frame, .slice bRe X.R.ready.length bRe', .slice bWa X.R.wait.length bWa', .slice bDu X.R.due.length bDu', .string X.R.out, .string X.R.inp, .int .i64 X.R.how, .int .i64 X.R.exit, .slice bSn X.R.snaps.length bSn'] := by rw [hw]; exact Blk.after w _ _ _
  have x1 : Ext w w1 := by rw [hw]; exact ((Ext.refl w).alloc _).alloc _
  have X1 := Lib.hid x1
  have B1 := Lib.hid b0
  have B3 := Lib.hid b3
  clear hw x1
  obtain ⟨p1, p2, p3⟩ := b0.rules
  obtain ⟨s1, s2, s3⟩ := b3.rules
  clear b0 b3
  generalize w.heap.size + 1 = q3 at *
  generalize w.heap.size = q at *
  cases hcA : checkB W with
  | false =>
    rw [hcA] at CA
    have HN := Lib.hid hcA
    clear hcA
    all_goals
      refine wp_region_ext (by kernel_rfl) (by kernel_rfl) ?_
      repeat (go_big_quiet_step ((first | (go_at_call 15; with_reducible exact calls_ext (CA.out _ (X1.out.ext _))) | (go_at_call 15; with_reducible exact calls_ext (CB.out _ (X1.out.ext _))))))
      refine wpQuiet_nil ?_
      rintro W3 ⟨xx, hx⟩
      have X3 := Lib.hid (X1.out.trans ⟨xx, hx⟩)
      clear hx p1 p2 p3 s1 s2 s3
      go_wp2_with fail
      go_ret
      exact ⟨false, ret_bool rfl, ⟨fun _ => rfl, fun _ => rfl, fun h => absurd h (by rw [HN.out]; decide)⟩, X3.out⟩
  | true =>
    rw [hcA] at CA
    cases hcB : checkB X with
    | false =>
      rw [hcB] at CB
      have HN := Lib.hid hcB
      clear hcA hcB
      refine wp_region_ext (by kernel_rfl) (by kernel_rfl) ?_
      repeat (go_big_quiet_step ((first | (go_at_call 15; with_reducible exact calls_ext (CA.out _ (X1.out.ext _))) | (go_at_call 15; with_reducible exact calls_ext (CB.out _ (X1.out.ext _))))))
      refine wpQuiet_nil ?_
      rintro W3 ⟨xx, hx⟩
      have X3 := Lib.hid (X1.out.trans ⟨xx, hx⟩)
      clear hx p1 p2 p3 s1 s2 s3
      go_wp2_with fail
      go_ret
      exact ⟨false, ret_bool rfl, ⟨fun _ => rfl, fun _ => rfl, fun _ h => absurd h (by rw [HN.out]; decide)⟩, X3.out⟩
    | true =>
      rw [hcB] at CB
      replace CCA := Lib.hid (fun W2 (z : Ext w W2) => CCA.out W2 z hcA)
      replace CCB := Lib.hid (fun W2 (z : Ext w W2) => CCB.out W2 z hcB)
      clear p1 p2 p3 s1 s2 s3
      refine wp_any_act (fun A hA => ?_)
      have eA : A = frRS8 q q3 (fun q => A.tmps.getD q undef) (fun q => A.tmps.getD q undef) := by rw [hA]; rfl
      clear hA
      generalize (fun q => A.tmps.getD q undef) = uu at eA
      subst eA
      refine wp_region_inv (Inv := RS8Inv w q q3 #[.slice aL W.L.length aL', .slice aD W.dead.length aD', .int .i64 W.last, .int .i64 W.R.proc, .int .i64 W.R.frame, .slice aRe W.R.ready.length aRe', .slice aWa W.R.wait.length aWa', .slice aDu W.R.due.length aDu', .string W.R.out, .string W.R.inp, .int .i64 W.R.how, .int .i64 W.R.exit, .slice aSn W.R.snaps.length aSn'] #[.slice bL X.L.length bL', .slice bD X.dead.length bD', .int .i64 X.last, .int .i64 X.R.proc, .int .i64 X.R.frame, .slice bRe X.R.ready.length bRe', .slice bWa X.R.wait.length bWa', .slice bDu X.R.due.length bDu', .string X.R.out, .string X.R.inp, .int .i64 X.R.how, .int .i64 X.R.exit, .slice bSn X.R.snaps.length bSn'] W X uu) (by kernel_rfl) ?_ ?_ ?_
      · refine ⟨fun _ => false, fun k => ?_, uu, rfl, by simp, ⟨X1.out.drew, B1.out.drew, B3.out.drew, ?_, ?_, ?_, ?_, ?_, ?_, ?_, ?_, ?_, ?_, ?_, ?_, ?_, ?_⟩⟩
        · rw [Array.getD_eq_getD_getElem?, Array.getElem?_replicate]; split <;> rfl
        all_goals (intro h; cases h)
      · rintro listed act w2 ii ⟨L, hL, s, rfl, hsz, I⟩ hi
        obtain ⟨hlt, hnot, hdep⟩ := (ready_iff _ _).1 hi
        have hiN : ii < 14 := hlt
        have casesN : ii = 0 ∨ ii = 1 ∨ ii = 2 ∨ ii = 3 ∨ ii = 4 ∨ ii = 5 ∨ ii = 6 ∨ ii = 7 ∨ ii = 8 ∨ ii = 9 ∨ ii = 10 ∨ ii = 11 ∨ ii = 12 ∨ ii = 13 := by omega
        have hn0 : L ii = false := by rw [← hL ii]; exact not_bit hnot
        clear hi hlt hiN hnot
        unfold frRS8
        rcases casesN with rfl | rfl | rfl | rfl | rfl | rfl | rfl | rfl | rfl | rfl | rfl | rfl | rfl | rfl
        · -- operation 0
          have R1 := Lib.hid I.bq.cell
          have lq := I.bq.lt
          have hc0 : w2.cell? ⟨q, 0, none⟩ = some (.slice aL W.L.length aL') := R1.out 0
          have hc1 : w2.cell? ⟨q, 1, none⟩ = some (.slice aD W.dead.length aD') := R1.out 1
          have hc2 : w2.cell? ⟨q, 2, none⟩ = some (.int .i64 W.last) := R1.out 2
          have hc3 : w2.cell? ⟨q, 3, none⟩ = some (.int .i64 W.R.proc) := R1.out 3
          have hc4 : w2.cell? ⟨q, 4, none⟩ = some (.int .i64 W.R.frame) := R1.out 4
          have hc5 : w2.cell? ⟨q, 5, none⟩ = some (.slice aRe W.R.ready.length aRe') := R1.out 5
          have hc6 : w2.cell? ⟨q, 6, none⟩ = some (.slice aWa W.R.wait.length aWa') := R1.out 6
          have hc7 : w2.cell? ⟨q, 7, none⟩ = some (.slice aDu W.R.due.length aDu') := R1.out 7
          have hc8 : w2.cell? ⟨q, 8, none⟩ = some (.string W.R.out) := R1.out 8
          have hc9 : w2.cell? ⟨q, 9, none⟩ = some (.string W.R.inp) := R1.out 9
          have hc10 : w2.cell? ⟨q, 10, none⟩ = some (.int .i64 W.R.how) := R1.out 10
          have hc11 : w2.cell? ⟨q, 11, none⟩ = some (.int .i64 W.R.exit) := R1.out 11
          have hc12 : w2.cell? ⟨q, 12, none⟩ = some (.slice aSn W.R.snaps.length aSn') := R1.out 12
          refine wpOp_step rfl (fun K' hK => ?_)
          go_simp
          exact hK _ _ ⟨_, bit_set hL hsz 0 (by omega), fun jx => if jx = 5 then .agg #[.slice aL W.L.length aL', .slice aD W.dead.length aD', .int .i64 W.last, .int .i64 W.R.proc, .int .i64 W.R.frame, .slice aRe W.R.ready.length aRe', .slice aWa W.R.wait.length aWa', .slice aDu W.R.due.length aDu', .string W.R.out, .string W.R.inp, .int .i64 W.R.how, .int .i64 W.R.exit, .slice aSn W.R.snaps.length aSn'] else s jx, by first | (simp [frRS8]; done) | (simp [frRS8]; rfl), by simpa using hsz, ⟨I.x, I.bq, I.b3, fun _ => rfl, I.v1, I.v2, I.v3, I.v4, I.v5, I.v6, I.v7, I.v8, I.v9, I.v10, I.v11, I.v12, I.v13⟩⟩
        · -- operation 1
          simp [hL, Region.binds] at hdep
          have d0 : L 0 = true := by simp [hdep]
          have e0 := I.v0 d0
          refine wpOp_step rfl (fun K' hK => ?_)
          rw [e0]
          go_simp
          refine (CA.out _ I.x).mono ?_
          rintro e w3 ⟨rfl, x3⟩
          have J := I.ext x3
          exact hK _ _ ⟨_, bit_set hL hsz 1 (by omega), fun jx => if jx = 6 then .bool true else s jx, by first | (simp [frRS8, e0]; done) | (simp [frRS8, e0]; rfl), by simpa using hsz, ⟨J.x, J.bq, J.b3, J.v0, fun _ => rfl, J.v2, J.v3, J.v4, J.v5, J.v6, J.v7, J.v8, J.v9, J.v10, J.v11, J.v12, J.v13⟩⟩
        · -- operation 2
          simp [hL, Region.binds] at hdep
          have d1 : L 1 = true := by simp [hdep]
          have e1 := I.v1 d1
          refine wpOp_step rfl (fun K' hK => ?_)
          rw [e1]
          go_simp
          exact hK _ _ ⟨_, bit_set hL hsz 2 (by omega), fun jx => if jx = 7 then .bool true else s jx, by first | (simp [frRS8, e1]; done) | (simp [frRS8, e1]; rfl), by simpa using hsz, ⟨I.x, I.bq, I.b3, I.v0, I.v1, fun _ => rfl, I.v3, I.v4, I.v5, I.v6, I.v7, I.v8, I.v9, I.v10, I.v11, I.v12, I.v13⟩⟩
        · -- operation 3
          simp [hL, Region.binds] at hdep
          have d2 : L 2 = true := by simp [hdep]
          have e2 := I.v2 d2
          have R1 := Lib.hid I.b3.cell
          have lq := I.b3.lt
          have hc0 : w2.cell? ⟨q3, 0, none⟩ = some (.slice bL X.L.length bL') := R1.out 0
          have hc1 : w2.cell? ⟨q3, 1, none⟩ = some (.slice bD X.dead.length bD') := R1.out 1
          have hc2 : w2.cell? ⟨q3, 2, none⟩ = some (.int .i64 X.last) := R1.out 2
          have hc3 : w2.cell? ⟨q3, 3, none⟩ = some (.int .i64 X.R.proc) := R1.out 3
          have hc4 : w2.cell? ⟨q3, 4, none⟩ = some (.int .i64 X.R.frame) := R1.out 4
          have hc5 : w2.cell? ⟨q3, 5, none⟩ = some (.slice bRe X.R.ready.length bRe') := R1.out 5
          have hc6 : w2.cell? ⟨q3, 6, none⟩ = some (.slice bWa X.R.wait.length bWa') := R1.out 6
          have hc7 : w2.cell? ⟨q3, 7, none⟩ = some (.slice bDu X.R.due.length bDu') := R1.out 7
          have hc8 : w2.cell? ⟨q3, 8, none⟩ = some (.string X.R.out) := R1.out 8
          have hc9 : w2.cell? ⟨q3, 9, none⟩ = some (.string X.R.inp) := R1.out 9
          have hc10 : w2.cell? ⟨q3, 10, none⟩ = some (.int .i64 X.R.how) := R1.out 10
          have hc11 : w2.cell? ⟨q3, 11, none⟩ = some (.int .i64 X.R.exit) := R1.out 11
          have hc12 : w2.cell? ⟨q3, 12, none⟩ = some (.slice bSn X.R.snaps.length bSn') := R1.out 12
          refine wpOp_step rfl (fun K' hK => ?_)
          rw [e2]
          go_simp
          exact hK _ _ ⟨_, bit_set hL hsz 3 (by omega), fun jx => if jx = 8 then .agg #[.slice bL X.L.length bL', .slice bD X.dead.length bD', .int .i64 X.last, .int .i64 X.R.proc, .int .i64 X.R.frame, .slice bRe X.R.ready.length bRe', .slice bWa X.R.wait.length bWa', .slice bDu X.R.due.length bDu', .string X.R.out, .string X.R.inp, .int .i64 X.R.how, .int .i64 X.R.exit, .slice bSn X.R.snaps.length bSn'] else s jx, by first | (simp [frRS8, e2]; done) | (simp [frRS8, e2]; rfl), by simpa using hsz, ⟨I.x, I.bq, I.b3, I.v0, I.v1, I.v2, fun _ => rfl, I.v4, I.v5, I.v6, I.v7, I.v8, I.v9, I.v10, I.v11, I.v12, I.v13⟩⟩
        · -- operation 4
          simp [hL, Region.binds] at hdep
          have d3 : L 3 = true := by simp [hdep]
          have d2 : L 2 = true := by simp [hdep]
          have e3 := I.v3 d3
          have e2 := I.v2 d2
          refine wpOp_step rfl (fun K' hK => ?_)
          rw [e3, e2]
          go_simp
          refine (CB.out _ I.x).mono ?_
          rintro e w3 ⟨rfl, x3⟩
          have J := I.ext x3
          exact hK _ _ ⟨_, bit_set hL hsz 4 (by omega), fun jx => if jx = 9 then .bool true else s jx, by first | (simp [frRS8, e3, e2]; done) | (simp [frRS8, e3, e2]; rfl), by simpa using hsz, ⟨J.x, J.bq, J.b3, J.v0, J.v1, J.v2, J.v3, fun _ => rfl, J.v5, J.v6, J.v7, J.v8, J.v9, J.v10, J.v11, J.v12, J.v13⟩⟩
        · -- operation 5
          simp [hL, Region.binds] at hdep
          have d2 : L 2 = true := by simp [hdep]
          have d4 : L 4 = true := by simp [hdep]
          have e2 := I.v2 d2
          have e4 := I.v4 d4
          refine wpOp_step rfl (fun K' hK => ?_)
          rw [e2, e4]
          go_simp
          exact hK _ _ ⟨_, bit_set hL hsz 5 (by omega), fun jx => if jx = 10 then .bool true else s jx, by first | (simp [frRS8, e2, e4]; done) | (simp [frRS8, e2, e4]; rfl), by simpa using hsz, ⟨I.x, I.bq, I.b3, I.v0, I.v1, I.v2, I.v3, I.v4, fun _ => rfl, I.v6, I.v7, I.v8, I.v9, I.v10, I.v11, I.v12, I.v13⟩⟩
        · -- operation 6
          simp [hL, Region.binds] at hdep
          have d5 : L 5 = true := by simp [hdep]
          have e5 := I.v5 d5
          refine wpOp_step rfl (fun K' hK => ?_)
          rw [e5]
          go_simp
          exact hK _ _ ⟨_, bit_set hL hsz 6 (by omega), fun jx => if jx = 11 then .bool true else s jx, by first | (simp [frRS8, e5]; done) | (simp [frRS8, e5]; rfl), by simpa using hsz, ⟨I.x, I.bq, I.b3, I.v0, I.v1, I.v2, I.v3, I.v4, I.v5, fun _ => rfl, I.v7, I.v8, I.v9, I.v10, I.v11, I.v12, I.v13⟩⟩
        · -- operation 7
          simp [hL, Region.binds] at hdep
          have d6 : L 6 = true := by simp [hdep]
          have e6 := I.v6 d6
          have R1 := Lib.hid I.bq.cell
          have lq := I.bq.lt
          have hc0 : w2.cell? ⟨q, 0, none⟩ = some (.slice aL W.L.length aL') := R1.out 0
          have hc1 : w2.cell? ⟨q, 1, none⟩ = some (.slice aD W.dead.length aD') := R1.out 1
          have hc2 : w2.cell? ⟨q, 2, none⟩ = some (.int .i64 W.last) := R1.out 2
          have hc3 : w2.cell? ⟨q, 3, none⟩ = some (.int .i64 W.R.proc) := R1.out 3
          have hc4 : w2.cell? ⟨q, 4, none⟩ = some (.int .i64 W.R.frame) := R1.out 4
          have hc5 : w2.cell? ⟨q, 5, none⟩ = some (.slice aRe W.R.ready.length aRe') := R1.out 5
          have hc6 : w2.cell? ⟨q, 6, none⟩ = some (.slice aWa W.R.wait.length aWa') := R1.out 6
          have hc7 : w2.cell? ⟨q, 7, none⟩ = some (.slice aDu W.R.due.length aDu') := R1.out 7
          have hc8 : w2.cell? ⟨q, 8, none⟩ = some (.string W.R.out) := R1.out 8
          have hc9 : w2.cell? ⟨q, 9, none⟩ = some (.string W.R.inp) := R1.out 9
          have hc10 : w2.cell? ⟨q, 10, none⟩ = some (.int .i64 W.R.how) := R1.out 10
          have hc11 : w2.cell? ⟨q, 11, none⟩ = some (.int .i64 W.R.exit) := R1.out 11
          have hc12 : w2.cell? ⟨q, 12, none⟩ = some (.slice aSn W.R.snaps.length aSn') := R1.out 12
          refine wpOp_step rfl (fun K' hK => ?_)
          rw [e6]
          go_simp
          exact hK _ _ ⟨_, bit_set hL hsz 7 (by omega), fun jx => if jx = 12 then .agg #[.slice aL W.L.length aL', .slice aD W.dead.length aD', .int .i64 W.last, .int .i64 W.R.proc, .int .i64 W.R.frame, .slice aRe W.R.ready.length aRe', .slice aWa W.R.wait.length aWa', .slice aDu W.R.due.length aDu', .string W.R.out, .string W.R.inp, .int .i64 W.R.how, .int .i64 W.R.exit, .slice aSn W.R.snaps.length aSn'] else s jx, by first | (simp [frRS8, e6]; done) | (simp [frRS8, e6]; rfl), by simpa using hsz, ⟨I.x, I.bq, I.b3, I.v0, I.v1, I.v2, I.v3, I.v4, I.v5, I.v6, fun _ => rfl, I.v8, I.v9, I.v10, I.v11, I.v12, I.v13⟩⟩
        · -- operation 8
          simp [hL, Region.binds] at hdep
          have d7 : L 7 = true := by simp [hdep]
          have d6 : L 6 = true := by simp [hdep]
          have e7 := I.v7 d7
          have e6 := I.v6 d6
          refine wpOp_step rfl (fun K' hK => ?_)
          rw [e7, e6]
          go_simp
          refine (CCA.out _ I.x).mono ?_
          rintro e w3 ⟨l, x, rfl, hr, hx, x3⟩
          have J := I.ext x3
          exact hK _ _ ⟨_, bit_set hL hsz 8 (by omega), fun jx => if jx = 13 then .agg (cellsW (canonW W l) x) else s jx, by first | (simp [frRS8, e7, e6, cellsW]; done) | (simp [frRS8, e7, e6, cellsW]; rfl), by simpa using hsz, ⟨J.x, J.bq, J.b3, J.v0, J.v1, J.v2, J.v3, J.v4, J.v5, J.v6, J.v7, (fun _ => ⟨l, x, rfl, hr, hx⟩), J.v9, J.v10, J.v11, J.v12, J.v13⟩⟩
        · -- operation 9
          simp [hL, Region.binds] at hdep
          have d6 : L 6 = true := by simp [hdep]
          have e6 := I.v6 d6
          have R1 := Lib.hid I.b3.cell
          have lq := I.b3.lt
          have hc0 : w2.cell? ⟨q3, 0, none⟩ = some (.slice bL X.L.length bL') := R1.out 0
          have hc1 : w2.cell? ⟨q3, 1, none⟩ = some (.slice bD X.dead.length bD') := R1.out 1
          have hc2 : w2.cell? ⟨q3, 2, none⟩ = some (.int .i64 X.last) := R1.out 2
          have hc3 : w2.cell? ⟨q3, 3, none⟩ = some (.int .i64 X.R.proc) := R1.out 3
          have hc4 : w2.cell? ⟨q3, 4, none⟩ = some (.int .i64 X.R.frame) := R1.out 4
          have hc5 : w2.cell? ⟨q3, 5, none⟩ = some (.slice bRe X.R.ready.length bRe') := R1.out 5
          have hc6 : w2.cell? ⟨q3, 6, none⟩ = some (.slice bWa X.R.wait.length bWa') := R1.out 6
          have hc7 : w2.cell? ⟨q3, 7, none⟩ = some (.slice bDu X.R.due.length bDu') := R1.out 7
          have hc8 : w2.cell? ⟨q3, 8, none⟩ = some (.string X.R.out) := R1.out 8
          have hc9 : w2.cell? ⟨q3, 9, none⟩ = some (.string X.R.inp) := R1.out 9
          have hc10 : w2.cell? ⟨q3, 10, none⟩ = some (.int .i64 X.R.how) := R1.out 10
          have hc11 : w2.cell? ⟨q3, 11, none⟩ = some (.int .i64 X.R.exit) := R1.out 11
          have hc12 : w2.cell? ⟨q3, 12, none⟩ = some (.slice bSn X.R.snaps.length bSn') := R1.out 12
          refine wpOp_step rfl (fun K' hK => ?_)
          rw [e6]
          go_simp
          exact hK _ _ ⟨_, bit_set hL hsz 9 (by omega), fun jx => if jx = 14 then .agg #[.slice bL X.L.length bL', .slice bD X.dead.length bD', .int .i64 X.last, .int .i64 X.R.proc, .int .i64 X.R.frame, .slice bRe X.R.ready.length bRe', .slice bWa X.R.wait.length bWa', .slice bDu X.R.due.length bDu', .string X.R.out, .string X.R.inp, .int .i64 X.R.how, .int .i64 X.R.exit, .slice bSn X.R.snaps.length bSn'] else s jx, by first | (simp [frRS8, e6]; done) | (simp [frRS8, e6]; rfl), by simpa using hsz, ⟨I.x, I.bq, I.b3, I.v0, I.v1, I.v2, I.v3, I.v4, I.v5, I.v6, I.v7, I.v8, fun _ => rfl, I.v10, I.v11, I.v12, I.v13⟩⟩
        · -- operation 10
          simp [hL, Region.binds] at hdep
          have d9 : L 9 = true := by simp [hdep]
          have d6 : L 6 = true := by simp [hdep]
          have e9 := I.v9 d9
          have e6 := I.v6 d6
          refine wpOp_step rfl (fun K' hK => ?_)
          rw [e9, e6]
          go_simp
          refine (CCB.out _ I.x).mono ?_
          rintro e w3 ⟨l, x, rfl, hr, hx, x3⟩
          have J := I.ext x3
          exact hK _ _ ⟨_, bit_set hL hsz 10 (by omega), fun jx => if jx = 15 then .agg (cellsW (canonW X l) x) else s jx, by first | (simp [frRS8, e9, e6, cellsW]; done) | (simp [frRS8, e9, e6, cellsW]; rfl), by simpa using hsz, ⟨J.x, J.bq, J.b3, J.v0, J.v1, J.v2, J.v3, J.v4, J.v5, J.v6, J.v7, J.v8, J.v9, (fun _ => ⟨l, x, rfl, hr, hx⟩), J.v11, J.v12, J.v13⟩⟩
        · -- operation 11
          simp [hL, Region.binds] at hdep
          have d8 : L 8 = true := by simp [hdep]
          have d10 : L 10 = true := by simp [hdep]
          have d6 : L 6 = true := by simp [hdep]
          obtain ⟨l8, x8, e8, r8, h8⟩ := I.v8 d8
          obtain ⟨l10, x10, e10, r10, h10⟩ := I.v10 d10
          have e6 := I.v6 d6
          refine wpOp_step rfl (fun K' hK => ?_)
          rw [e8, e10, e6]
          unfold cellsW
          go_simp
          refine (requal h8 h10).mono ?_
          rintro e w3 ⟨rfl, x3⟩
          have J := I.ext x3
          exact hK _ _ ⟨_, bit_set hL hsz 11 (by omega), fun jx => if jx = 16 then .bool (eqE (canonW W l8) (canonW X l10)) else s jx, by first | (simp [frRS8, e8, e10, e6, cellsW]; done) | (simp [frRS8, e8, e10, e6, cellsW]; rfl), by simpa using hsz, ⟨J.x, J.bq, J.b3, J.v0, J.v1, J.v2, J.v3, J.v4, J.v5, J.v6, J.v7, J.v8, J.v9, J.v10, (fun _ => ⟨_, rfl, SameQ.mk hcA hcB r8 r10⟩), J.v12, J.v13⟩⟩
        · -- operation 12
          simp [hL, Region.binds] at hdep
          have d6 : L 6 = true := by simp [hdep]
          have d11 : L 11 = true := by simp [hdep]
          have e6 := I.v6 d6
          obtain ⟨r11, e11, h11⟩ := I.v11 d11
          refine wpOp_step rfl (fun K' hK => ?_)
          rw [e6, e11]
          go_simp
          exact hK _ _ ⟨_, bit_set hL hsz 12 (by omega), fun jx => if jx = 17 then .bool r11 else s jx, by first | (simp [frRS8, e6, e11]; done) | (simp [frRS8, e6, e11]; rfl), by simpa using hsz, ⟨I.x, I.bq, I.b3, I.v0, I.v1, I.v2, I.v3, I.v4, I.v5, I.v6, I.v7, I.v8, I.v9, I.v10, I.v11, (fun _ => ⟨_, rfl, h11⟩), I.v13⟩⟩
        · -- operation 13
          simp [hL, Region.binds] at hdep
          have d12 : L 12 = true := by simp [hdep]
          obtain ⟨r12, e12, h12⟩ := I.v12 d12
          refine wpOp_step rfl (fun K' hK => ?_)
          rw [e12]
          go_simp
          exact hK _ _ ⟨_, bit_set hL hsz 13 (by omega), fun jx => if jx = 4 then .bool r12 else s jx, by first | (simp [frRS8, e12]; done) | (simp [frRS8, e12]; rfl), by simpa using hsz, ⟨I.x, I.bq, I.b3, I.v0, I.v1, I.v2, I.v3, I.v4, I.v5, I.v6, I.v7, I.v8, I.v9, I.v10, I.v11, I.v12, (fun _ => ⟨_, rfl, h12⟩)⟩⟩
      · rintro listed act w2 ⟨L, hL, s, rfl, hsz, I⟩ hr
        have ALL : ∀ i, i < 14 → L i = true := fun i hi => by rw [← hL i]; exact all_listed (by kernel_rfl) hsz hr i hi
        obtain ⟨r, er, hr2⟩ := I.v13 (ALL 13 (by omega))
        have XF := Lib.hid I.x
        have HQ := Lib.hid hr2
        clear I hL ALL hr hsz
        unfold frRS8
        rw [er]
        go_wp2_with fail
        go_ret
        exact ⟨r, ret_bool rfl, HQ.out, XF.out⟩
end
end Go.Proofs.Ytadhkmplhgcgkaa.World
namespace Go.Proofs.Ytadhkmplhgcgkaa.World
open Go.RowKit Go.Proofs.Ytadhkmplhgcgkaa.Plain
set_option linter.unusedVariables false
attribute [local go_sem ↓] Go.wp_at_zero Go.wp_at_succ
theorem bools_blk {w : World} {g N : Nat} {l : List Bool} (h : Blk w g 4 (l.map Value.bool).toArray) (hl : l.length = N) (hm : N ≤ 1000000) : BoolsAt w (.slice (some ⟨g, 0, none⟩) N N) l := by
  subst hl
  exact ⟨_, _, rfl, Nat.le_refl _, by omega, fun i hi => ⟨g, 0, rfl, h.lt, fun j hj => by
    obtain rfl : j = 0 := by omega
    rw [show 0 + i * 1 + 0 = i from by omega, h.cell]
    simp [List.getD_eq_getElem?_getD, hi]⟩⟩
theorem ints_true {w : World} {v v' : Value} {l : List Int} (h : IntsAt w v l) (h' : IntsAt w v' l) : Calls Try.prog 60 #[v, v'] w fun e w' => e = .returned (.bool true) ∧ Ext w w' := by
  have q := sameInts h h'
  rw [eqInts_refl] at q
  exact q
theorem bools_true {w : World} {v v' : Value} {l l' : List Bool} {N : Nat} {nx : Nat → List Int} {rs : List Int} (r : RchL N nx rs l) (r' : RchL N nx rs l') (h : BoolsAt w v l) (h' : BoolsAt w v' l') : Calls Try.prog 62 #[v, v'] w fun e w' => e = .returned (.bool true) ∧ Ext w w' := by
  have q := sameBools h h'
  rw [r.uniq r', eqBools_refl] at q
  exact q
theorem equal_true {w : World} {x y : WV} {W : PW} {l l' : List Bool} (r : RchL W.L.length (nxW W true) (rootsOf W.R) l) (r' : RchL W.L.length (nxW W true) (rootsOf W.R) l') (h : WorldAt w x (canonW W l)) (h' : WorldAt w y (canonW W l')) :
    Calls Try.prog 22 #[.agg (cellsW (canonW W l) x), .agg (cellsW (canonW W l') y)] w fun e w' => e = .returned (.bool true) ∧ Ext w w' := by
  have q := lequal h h'
  have e : eqE (canonW W l) (canonW W l') = true := by rw [r.uniq r']; exact eqE_refl _
  rw [e] at q
  exact q
section
variable {w : World} {x : WV} {W : PW}
theorem roots_i (h : WorldAt w x W) (hc : checkB W = true) : Calls Try.prog 25 #[.agg (cellsW W x)] w fun e w' => ∃ A c, e = .returned (.slice A (rootsOf W.R).length c) ∧ IntsAt w' (.slice A (rootsOf W.R).length c) (rootsOf W.R) ∧ Ext w w' := by
  refine (Roots_ h (fun _ => by have := regs_lens hc; omega)).mono ?_
  rintro e w' ⟨v, rfl, o, xx⟩
  rw [hc, if_pos rfl] at o
  obtain ⟨A, c, ev, _⟩ := Row.form o.ints
  replace ev : v = .slice A (rootsOf W.R).length c := ev
  subst ev
  exact ⟨A, c, rfl, o.ints, xx⟩
theorem rroots_i (h : WorldAt w x W) (hc : checkB W = true) : Calls Try.prog 61 #[.agg (cellsW W x)] w fun e w' => ∃ A c, e = .returned (.slice A (rootsOf W.R).length c) ∧ IntsAt w' (.slice A (rootsOf W.R).length c) (rootsOf W.R) ∧ Ext w w' := by
  refine (rroots' h hc).mono ?_
  rintro e w' ⟨v, rfl, o, xx⟩
  obtain ⟨A, c, ev, _⟩ := Row.form o.ints
  replace ev : v = .slice A (rootsOf W.R).length c := ev
  subst ev
  exact ⟨A, c, rfl, o.ints, xx⟩
theorem strong_i (h : WorldAt w x W) (hc : checkB W = true) : Calls Try.prog 12 #[.agg (cellsW W x)] w fun e w' => ∃ l g, e = .returned (.slice (some ⟨g, 0, none⟩) W.L.length W.L.length) ∧ RchL W.L.length (nxW W false) (rootsOf W.R) l ∧ BoolsAt w' (.slice (some ⟨g, 0, none⟩) W.L.length W.L.length) l ∧ Ext w w' := by
  refine (strong_ h).mono ?_
  rintro e w' ⟨v, rfl, P, xx⟩
  obtain ⟨l, g, rfl, hl, b, _⟩ := P.yes hc
  exact ⟨l, g, rfl, hl, bools_blk b hl.1 (by have := (check_len hc).2; omega), xx⟩
theorem all_i (h : WorldAt w x W) (hc : checkB W = true) : Calls Try.prog 13 #[.agg (cellsW W x)] w fun e w' => ∃ l g, e = .returned (.slice (some ⟨g, 0, none⟩) W.L.length W.L.length) ∧ RchL W.L.length (nxW W true) (rootsOf W.R) l ∧ BoolsAt w' (.slice (some ⟨g, 0, none⟩) W.L.length W.L.length) l ∧ Ext w w' := by
  refine (all_ h).mono ?_
  rintro e w' ⟨v, rfl, P, xx⟩
  obtain ⟨l, g, rfl, hl, b, _⟩ := P.yes hc
  exact ⟨l, g, rfl, hl, bools_blk b hl.1 (by have := (check_len hc).2; omega), xx⟩
theorem rstrong_i (h : WorldAt w x W) (hc : checkB W = true) : Calls Try.prog 63 #[.agg (cellsW W x)] w fun e w' => ∃ l g, e = .returned (.slice (some ⟨g, 0, none⟩) W.L.length W.L.length) ∧ RchL W.L.length (nxW W false) (rootsOf W.R) l ∧ BoolsAt w' (.slice (some ⟨g, 0, none⟩) W.L.length W.L.length) l ∧ Ext w w' := by
  refine (rstrong h hc).mono ?_
  rintro e w' ⟨l, g, rfl, hl, b, _, xx⟩
  exact ⟨l, g, rfl, hl, bools_blk b hl.1 (by have := (check_len hc).2; omega), xx⟩
theorem rall_i (h : WorldAt w x W) (hc : checkB W = true) : Calls Try.prog 64 #[.agg (cellsW W x)] w fun e w' => ∃ l g, e = .returned (.slice (some ⟨g, 0, none⟩) W.L.length W.L.length) ∧ RchL W.L.length (nxW W true) (rootsOf W.R) l ∧ BoolsAt w' (.slice (some ⟨g, 0, none⟩) W.L.length W.L.length) l ∧ Ext w w' := by
  refine (rall h hc).mono ?_
  rintro e w' ⟨l, g, rfl, hl, b, _, xx⟩
  exact ⟨l, g, rfl, hl, bools_blk b hl.1 (by have := (check_len hc).2; omega), xx⟩
theorem world_i (h : WorldAt w x W) (hc : checkB W = true) : Calls Try.prog 20 #[.agg (cellsW W x)] w fun e w' => ∃ x, e = .returned (.agg (cellsW W x)) ∧ WorldAt w' x W ∧ Ext w w' := by
  refine (lworld h hc).mono ?_
  rintro e w' ⟨⟨x', e1, n⟩, xx⟩
  exact ⟨x', e1, n.at_, xx⟩
end
structure TD8 (w0 : World) (q q3 : Nat) (cw cx : Array Value) (W X : PW) (L : Nat → Bool) (s : Nat → Value) (w : World) : Prop where
  x : Ext w0 w
  bq : Blk w q 31 cw
  b3 : Blk w q3 31 cx
  v0 : L 0 = true → s 5 = .agg cw
  v1 : L 1 = true → ∃ A c, s 6 = .slice A (rootsOf W.R).length c ∧ IntsAt w (.slice A (rootsOf W.R).length c) (rootsOf W.R)
  v2 : L 2 = true → s 7 = .agg cw
  v3 : L 3 = true → ∃ A c, s 8 = .slice A (rootsOf W.R).length c ∧ IntsAt w (.slice A (rootsOf W.R).length c) (rootsOf W.R)
  v4 : L 4 = true → s 9 = .bool true
  v5 : L 5 = true → s 10 = .bool true
  v6 : L 6 = true → s 11 = .agg cw
  v7 : L 7 = true → ∃ l g, s 12 = .slice (some ⟨g, 0, none⟩) W.L.length W.L.length ∧ RchL W.L.length (nxW W false) (rootsOf W.R) l ∧ BoolsAt w (.slice (some ⟨g, 0, none⟩) W.L.length W.L.length) l
  v8 : L 8 = true → s 13 = .agg cw
  v9 : L 9 = true → ∃ l g, s 14 = .slice (some ⟨g, 0, none⟩) W.L.length W.L.length ∧ RchL W.L.length (nxW W false) (rootsOf W.R) l ∧ BoolsAt w (.slice (some ⟨g, 0, none⟩) W.L.length W.L.length) l
  v10 : L 10 = true → s 15 = .bool true
  v11 : L 11 = true → s 16 = .bool true
  v12 : L 12 = true → s 17 = .bool true
  v13 : L 13 = true → s 18 = .agg cw
  v14 : L 14 = true → ∃ l g, s 19 = .slice (some ⟨g, 0, none⟩) W.L.length W.L.length ∧ RchL W.L.length (nxW W true) (rootsOf W.R) l ∧ BoolsAt w (.slice (some ⟨g, 0, none⟩) W.L.length W.L.length) l
  v15 : L 15 = true → s 20 = .agg cw
  v16 : L 16 = true → ∃ l g, s 21 = .slice (some ⟨g, 0, none⟩) W.L.length W.L.length ∧ RchL W.L.length (nxW W true) (rootsOf W.R) l ∧ BoolsAt w (.slice (some ⟨g, 0, none⟩) W.L.length W.L.length) l
  v17 : L 17 = true → s 22 = .bool true
  v18 : L 18 = true → s 23 = .bool true
  v19 : L 19 = true → s 24 = .bool true
  v20 : L 20 = true → s 25 = .agg cw
  v21 : L 21 = true → ∃ x, s 26 = .agg (cellsW W x) ∧ WorldAt w x W
  v22 : L 22 = true → ∃ l x, s 27 = .agg (cellsW (canonW W l) x) ∧ RchL W.L.length (nxW W true) (rootsOf W.R) l ∧ WorldAt w x (canonW W l)
  v23 : L 23 = true → s 28 = .agg cw
  v24 : L 24 = true → ∃ l x, s 29 = .agg (cellsW (canonW W l) x) ∧ RchL W.L.length (nxW W true) (rootsOf W.R) l ∧ WorldAt w x (canonW W l)
  v25 : L 25 = true → s 30 = .bool true
  v26 : L 26 = true → s 31 = .bool true
  v27 : L 27 = true → s 32 = .bool true
  v28 : L 28 = true → s 33 = .agg cw
  v29 : L 29 = true → s 34 = .agg cx
  v30 : L 30 = true → ∃ r, s 35 = .bool r ∧ SameQ W X r
  v31 : L 31 = true → s 36 = .agg cw
  v32 : L 32 = true → s 37 = .agg cx
  v33 : L 33 = true → ∃ r, s 38 = .bool r ∧ SameQ W X r
  v34 : L 34 = true → s 39 = .bool true
  v35 : L 35 = true → s 40 = .bool true
  v36 : L 36 = true → s 41 = .bool true
  v37 : L 37 = true → s 42 = .agg cw
  v38 : L 38 = true → s 43 = .agg cw
  v39 : L 39 = true → ∃ x, s 44 = .agg (cellsW W x) ∧ WorldAt w x W
  v40 : L 40 = true → ∃ r, s 45 = .bool r ∧ SameQ W W r
  v41 : L 41 = true → s 46 = .bool true
  v42 : L 42 = true → s 4 = .bool true
theorem TD8.ext {w w' : World} {w0 : World} {q q3 : Nat} {cw cx : Array Value} {W X : PW} {L : Nat → Bool} {s : Nat → Value} (I : TD8 w0 q q3 cw cx W X L s w) (y : Ext w w') : TD8 w0 q q3 cw cx W X L s w' := by
  refine ⟨I.x.trans y, I.bq.ext y, I.b3.ext y, I.v0, fun h => ?_, I.v2, fun h => ?_, I.v4, I.v5, I.v6, fun h => ?_, I.v8, fun h => ?_, I.v10, I.v11, I.v12, I.v13, fun h => ?_, I.v15, fun h => ?_, I.v17, I.v18, I.v19, I.v20, fun h => ?_, fun h => ?_, I.v23, fun h => ?_, I.v25, I.v26, I.v27, I.v28, I.v29, fun h => ?_, I.v31, I.v32, fun h => ?_, I.v34, I.v35, I.v36, I.v37, I.v38, fun h => ?_, fun h => ?_, I.v41, I.v42⟩
  · obtain ⟨A, c, e, h⟩ := I.v1 h; exact ⟨A, c, e, h.ext y⟩
  · obtain ⟨A, c, e, h⟩ := I.v3 h; exact ⟨A, c, e, h.ext y⟩
  · obtain ⟨l, g, e, r, h⟩ := I.v7 h; exact ⟨l, g, e, r, h.ext y⟩
  · obtain ⟨l, g, e, r, h⟩ := I.v9 h; exact ⟨l, g, e, r, h.ext y⟩
  · obtain ⟨l, g, e, r, h⟩ := I.v14 h; exact ⟨l, g, e, r, h.ext y⟩
  · obtain ⟨l, g, e, r, h⟩ := I.v16 h; exact ⟨l, g, e, r, h.ext y⟩
  · obtain ⟨x, e, h⟩ := I.v21 h; exact ⟨x, e, h.ext y⟩
  · obtain ⟨l, x, e, r, h⟩ := I.v22 h; exact ⟨l, x, e, r, h.ext y⟩
  · obtain ⟨l, x, e, r, h⟩ := I.v24 h; exact ⟨l, x, e, r, h.ext y⟩
  · exact I.v30 h
  · exact I.v33 h
  · obtain ⟨x, e, h⟩ := I.v39 h; exact ⟨x, e, h.ext y⟩
  · exact I.v40 h
def frTD8 (q q3 : Nat) (u s : Nat → Value) : Act := { tmps := #[u 0, u 1, .pointer (some ⟨q, 0, none⟩), .pointer (some ⟨q3, 0, none⟩), s 4, s 5, s 6, s 7, s 8, s 9, s 10, s 11, s 12, s 13, s 14, s 15, s 16, s 17, s 18, s 19, s 20, s 21, s 22, s 23, s 24, s 25, s 26, s 27, s 28, s 29, s 30, s 31, s 32, s 33, s 34, s 35, s 36, s 37, s 38, s 39, s 40, s 41, s 42, s 43, s 44, s 45, s 46], defers := [] }
def TD8Inv (w0 : World) (q q3 : Nat) (cw cx : Array Value) (W X : PW) (u : Nat → Value) (listed : Array Bool) (a : Act) (w : World) : Prop :=
  ∃ L : Nat → Bool, (∀ k, listed.getD k false = L k) ∧ ∃ s : Nat → Value, a = frTD8 q q3 u s ∧ listed.size = 43 ∧ TD8 w0 q q3 cw cx W X L s w
section
variable {w : World} {x y : WV} {W X : PW}
set_option maxRecDepth 100000 in
set_option maxHeartbeats 16000000 in
theorem told8 (hA : WorldAt w x W) (hB : WorldAt w y X) (hcW : checkB W = true) : Calls Try.prog 27 #[.agg (cellsW W x), .agg (cellsW X y)] w fun e w' => e = .returned (.bool true) ∧ Ext w w' := by
  have CRo := Lib.hid (fun W2 (z : Ext w W2) => roots_i (hA.ext z) hcW)
  have CRr := Lib.hid (fun W2 (z : Ext w W2) => rroots_i (hA.ext z) hcW)
  have CSt := Lib.hid (fun W2 (z : Ext w W2) => strong_i (hA.ext z) hcW)
  have CSr := Lib.hid (fun W2 (z : Ext w W2) => rstrong_i (hA.ext z) hcW)
  have CAl := Lib.hid (fun W2 (z : Ext w W2) => all_i (hA.ext z) hcW)
  have CAr := Lib.hid (fun W2 (z : Ext w W2) => rall_i (hA.ext z) hcW)
  have CWo := Lib.hid (fun W2 (z : Ext w W2) => world_i (hA.ext z) hcW)
  have CCr := Lib.hid (fun W2 (z : Ext w W2) => rcanon_i (hA.ext z) hcW)
  have CSm := Lib.hid (fun W2 (z : Ext w W2) => same_q (hA.ext z) (hB.ext z))
  have CSn := Lib.hid (fun W2 (z : Ext w W2) => rsame (hA.ext z) (hB.ext z))
  have HA := Lib.hid hA
  have HB := Lib.hid hB
  obtain ⟨avL, afs, avD, avRe, avWa, avDu, avSn⟩ := x
  obtain ⟨bvL, bfs, bvD, bvRe, bvWa, bvDu, bvSn⟩ := y
  obtain ⟨aL, aL', eaL, _, _⟩ := hA.L.row.form
  replace eaL : avL = .slice aL W.L.length aL' := eaL
  subst eaL
  obtain ⟨aD, aD', eaD, _, _⟩ := Row.form hA.dead
  replace eaD : avD = .slice aD W.dead.length aD' := eaD
  subst eaD
  obtain ⟨aRe, aRe', eaRe, _, _⟩ := Row.form hA.ready
  replace eaRe : avRe = .slice aRe W.R.ready.length aRe' := eaRe
  subst eaRe
  obtain ⟨aWa, aWa', eaWa, _, _⟩ := Row.form hA.wait
  replace eaWa : avWa = .slice aWa W.R.wait.length aWa' := eaWa
  subst eaWa
  obtain ⟨aDu, aDu', eaDu, _, _⟩ := Row.form hA.due
  replace eaDu : avDu = .slice aDu W.R.due.length aDu' := eaDu
  subst eaDu
  obtain ⟨aSn, aSn', eaSn, _, _⟩ := Row.form hA.snaps
  replace eaSn : avSn = .slice aSn W.R.snaps.length aSn' := eaSn
  subst eaSn
  obtain ⟨bL, bL', ebL, _, _⟩ := hB.L.row.form
  replace ebL : bvL = .slice bL X.L.length bL' := ebL
  subst ebL
  obtain ⟨bD, bD', ebD, _, _⟩ := Row.form hB.dead
  replace ebD : bvD = .slice bD X.dead.length bD' := ebD
  subst ebD
  obtain ⟨bRe, bRe', ebRe, _, _⟩ := Row.form hB.ready
  replace ebRe : bvRe = .slice bRe X.R.ready.length bRe' := ebRe
  subst ebRe
  obtain ⟨bWa, bWa', ebWa, _, _⟩ := Row.form hB.wait
  replace ebWa : bvWa = .slice bWa X.R.wait.length bWa' := ebWa
  subst ebWa
  obtain ⟨bDu, bDu', ebDu, _, _⟩ := Row.form hB.due
  replace ebDu : bvDu = .slice bDu X.R.due.length bDu' := ebDu
  subst ebDu
  obtain ⟨bSn, bSn', ebSn, _, _⟩ := Row.form hB.snaps
  replace ebSn : bvSn = .slice bSn X.R.snaps.length bSn' := ebSn
  subst ebSn
  simp only [cellsW] at CRo CRr CSt CSr CAl CAr CWo CCr CSm CSn ⊢
  clear hA hB
  go_enter Try.func27, Try.ntmps27
  go_upto_region 1 with (fail)
  refine wp_name (fun w1 hw => ?_)
  have b0 : Blk w1 w.heap.size 31 #[.slice aL W.L.length aL', .slice aD W.dead.length aD', .int .i64 W.last, .int .i64 W.R.proc, .int .i64 W.R.frame, .slice aRe W.R.ready.length aRe', .slice aWa W.R.wait.length aWa', .slice aDu W.R.due.length aDu', .string W.R.out, .string W.R.inp, .int .i64 W.R.how, .int .i64 W.R.exit, .slice aSn W.R.snaps.length aSn'] := by rw [hw]; exact (Blk.new w _ _).alloc _
  have b3 : Blk w1 (w.heap.size + 1) 31 #[.slice bL X.L.length bL', .slice bD X.dead.length bD', .int .i64 X.last, .int .i64 X.R.proc, .int .i64 X.R.frame, .slice bRe X.R.ready.length bRe', .slice bWa X.R.wait.length bWa', .slice bDu X.R.due.length bDu', .string X.R.out, .string X.R.inp, .int .i64 X.R.how, .int .i64 X.R.exit, .slice bSn X.R.snaps.length bSn'] := by rw [hw]; exact Blk.after w _ _ _
  have x1 : Ext w w1 := by rw [hw]; exact ((Ext.refl w).alloc _).alloc _
  have X1 := Lib.hid x1
  have B1 := Lib.hid b0
  have B3 := Lib.hid b3
  clear hw x1
  obtain ⟨p1, p2, p3⟩ := b0.rules
  obtain ⟨s1, s2, s3⟩ := b3.rules
  clear b0 b3
  generalize w.heap.size + 1 = q3 at *
  generalize w.heap.size = q at *
  clear p1 p2 p3 s1 s2 s3
  refine wp_any_act (fun A hA => ?_)
  have eA : A = frTD8 q q3 (fun q => A.tmps.getD q undef) (fun q => A.tmps.getD q undef) := by rw [hA]; rfl
  clear hA
  generalize (fun q => A.tmps.getD q undef) = uu at eA
  subst eA
  refine wp_region_inv (Inv := TD8Inv w q q3 #[.slice aL W.L.length aL', .slice aD W.dead.length aD', .int .i64 W.last, .int .i64 W.R.proc, .int .i64 W.R.frame, .slice aRe W.R.ready.length aRe', .slice aWa W.R.wait.length aWa', .slice aDu W.R.due.length aDu', .string W.R.out, .string W.R.inp, .int .i64 W.R.how, .int .i64 W.R.exit, .slice aSn W.R.snaps.length aSn'] #[.slice bL X.L.length bL', .slice bD X.dead.length bD', .int .i64 X.last, .int .i64 X.R.proc, .int .i64 X.R.frame, .slice bRe X.R.ready.length bRe', .slice bWa X.R.wait.length bWa', .slice bDu X.R.due.length bDu', .string X.R.out, .string X.R.inp, .int .i64 X.R.how, .int .i64 X.R.exit, .slice bSn X.R.snaps.length bSn'] W X uu) (by kernel_rfl) ?_ ?_ ?_
  · refine ⟨fun _ => false, fun k => ?_, uu, rfl, by simp, ⟨X1.out.drew, B1.out.drew, B3.out.drew, ?_, ?_, ?_, ?_, ?_, ?_, ?_, ?_, ?_, ?_, ?_, ?_, ?_, ?_, ?_, ?_, ?_, ?_, ?_, ?_, ?_, ?_, ?_, ?_, ?_, ?_, ?_, ?_, ?_, ?_, ?_, ?_, ?_, ?_, ?_, ?_, ?_, ?_, ?_, ?_, ?_, ?_, ?_⟩⟩
    · rw [Array.getD_eq_getD_getElem?, Array.getElem?_replicate]; split <;> rfl
    all_goals (intro h; cases h)
  · rintro listed act w2 ii ⟨L, hL, s, rfl, hsz, I⟩ hi
    obtain ⟨hlt, hnot, hdep⟩ := (ready_iff _ _).1 hi
    have hiN : ii < 43 := hlt
    have casesN : ii = 0 ∨ ii = 1 ∨ ii = 2 ∨ ii = 3 ∨ ii = 4 ∨ ii = 5 ∨ ii = 6 ∨ ii = 7 ∨ ii = 8 ∨ ii = 9 ∨ ii = 10 ∨ ii = 11 ∨ ii = 12 ∨ ii = 13 ∨ ii = 14 ∨ ii = 15 ∨ ii = 16 ∨ ii = 17 ∨ ii = 18 ∨ ii = 19 ∨ ii = 20 ∨ ii = 21 ∨ ii = 22 ∨ ii = 23 ∨ ii = 24 ∨ ii = 25 ∨ ii = 26 ∨ ii = 27 ∨ ii = 28 ∨ ii = 29 ∨ ii = 30 ∨ ii = 31 ∨ ii = 32 ∨ ii = 33 ∨ ii = 34 ∨ ii = 35 ∨ ii = 36 ∨ ii = 37 ∨ ii = 38 ∨ ii = 39 ∨ ii = 40 ∨ ii = 41 ∨ ii = 42 := by omega
    have hn0 : L ii = false := by rw [← hL ii]; exact not_bit hnot
    clear hi hlt hiN hnot
    unfold frTD8
    rcases casesN with rfl | rfl | rfl | rfl | rfl | rfl | rfl | rfl | rfl | rfl | rfl | rfl | rfl | rfl | rfl | rfl | rfl | rfl | rfl | rfl | rfl | rfl | rfl | rfl | rfl | rfl | rfl | rfl | rfl | rfl | rfl | rfl | rfl | rfl | rfl | rfl | rfl | rfl | rfl | rfl | rfl | rfl | rfl
    · -- operation 0
      have R1 := Lib.hid I.bq.cell
      have lq := I.bq.lt
      have hc0 : w2.cell? ⟨q, 0, none⟩ = some (.slice aL W.L.length aL') := R1.out 0
      have hc1 : w2.cell? ⟨q, 1, none⟩ = some (.slice aD W.dead.length aD') := R1.out 1
      have hc2 : w2.cell? ⟨q, 2, none⟩ = some (.int .i64 W.last) := R1.out 2
      have hc3 : w2.cell? ⟨q, 3, none⟩ = some (.int .i64 W.R.proc) := R1.out 3
      have hc4 : w2.cell? ⟨q, 4, none⟩ = some (.int .i64 W.R.frame) := R1.out 4
      have hc5 : w2.cell? ⟨q, 5, none⟩ = some (.slice aRe W.R.ready.length aRe') := R1.out 5
      have hc6 : w2.cell? ⟨q, 6, none⟩ = some (.slice aWa W.R.wait.length aWa') := R1.out 6
      have hc7 : w2.cell? ⟨q, 7, none⟩ = some (.slice aDu W.R.due.length aDu') := R1.out 7
      have hc8 : w2.cell? ⟨q, 8, none⟩ = some (.string W.R.out) := R1.out 8
      have hc9 : w2.cell? ⟨q, 9, none⟩ = some (.string W.R.inp) := R1.out 9
      have hc10 : w2.cell? ⟨q, 10, none⟩ = some (.int .i64 W.R.how) := R1.out 10
      have hc11 : w2.cell? ⟨q, 11, none⟩ = some (.int .i64 W.R.exit) := R1.out 11
      have hc12 : w2.cell? ⟨q, 12, none⟩ = some (.slice aSn W.R.snaps.length aSn') := R1.out 12
      refine wpOp_step rfl (fun K' hK => ?_)
      go_simp
      exact hK _ _ ⟨_, bit_set hL hsz 0 (by omega), fun jx => if jx = 5 then .agg #[.slice aL W.L.length aL', .slice aD W.dead.length aD', .int .i64 W.last, .int .i64 W.R.proc, .int .i64 W.R.frame, .slice aRe W.R.ready.length aRe', .slice aWa W.R.wait.length aWa', .slice aDu W.R.due.length aDu', .string W.R.out, .string W.R.inp, .int .i64 W.R.how, .int .i64 W.R.exit, .slice aSn W.R.snaps.length aSn'] else s jx, by first | (simp [frTD8]; done) | (simp [frTD8]; rfl), by simpa using hsz, ⟨I.x, I.bq, I.b3, fun _ => rfl, I.v1, I.v2, I.v3, I.v4, I.v5, I.v6, I.v7, I.v8, I.v9, I.v10, I.v11, I.v12, I.v13, I.v14, I.v15, I.v16, I.v17, I.v18, I.v19, I.v20, I.v21, I.v22, I.v23, I.v24, I.v25, I.v26, I.v27, I.v28, I.v29, I.v30, I.v31, I.v32, I.v33, I.v34, I.v35, I.v36, I.v37, I.v38, I.v39, I.v40, I.v41, I.v42⟩⟩
    · -- operation 1
      simp [hL, Region.binds] at hdep
      have d0 : L 0 = true := by simp [hdep]
      have e0 := I.v0 d0
      refine wpOp_step rfl (fun K' hK => ?_)
      rw [e0]
      go_simp
      refine (CRo.out _ I.x).mono ?_
      rintro e w3 ⟨A, c, rfl, ho, x3⟩
      have J := I.ext x3
      exact hK _ _ ⟨_, bit_set hL hsz 1 (by omega), fun jx => if jx = 6 then .slice A (rootsOf W.R).length c else s jx, by first | (simp [frTD8, e0]; done) | (simp [frTD8, e0]; rfl), by simpa using hsz, ⟨J.x, J.bq, J.b3, J.v0, (fun _ => ⟨A, c, rfl, ho⟩), J.v2, J.v3, J.v4, J.v5, J.v6, J.v7, J.v8, J.v9, J.v10, J.v11, J.v12, J.v13, J.v14, J.v15, J.v16, J.v17, J.v18, J.v19, J.v20, J.v21, J.v22, J.v23, J.v24, J.v25, J.v26, J.v27, J.v28, J.v29, J.v30, J.v31, J.v32, J.v33, J.v34, J.v35, J.v36, J.v37, J.v38, J.v39, J.v40, J.v41, J.v42⟩⟩
    · -- operation 2
      have R1 := Lib.hid I.bq.cell
      have lq := I.bq.lt
      have hc0 : w2.cell? ⟨q, 0, none⟩ = some (.slice aL W.L.length aL') := R1.out 0
      have hc1 : w2.cell? ⟨q, 1, none⟩ = some (.slice aD W.dead.length aD') := R1.out 1
      have hc2 : w2.cell? ⟨q, 2, none⟩ = some (.int .i64 W.last) := R1.out 2
      have hc3 : w2.cell? ⟨q, 3, none⟩ = some (.int .i64 W.R.proc) := R1.out 3
      have hc4 : w2.cell? ⟨q, 4, none⟩ = some (.int .i64 W.R.frame) := R1.out 4
      have hc5 : w2.cell? ⟨q, 5, none⟩ = some (.slice aRe W.R.ready.length aRe') := R1.out 5
      have hc6 : w2.cell? ⟨q, 6, none⟩ = some (.slice aWa W.R.wait.length aWa') := R1.out 6
      have hc7 : w2.cell? ⟨q, 7, none⟩ = some (.slice aDu W.R.due.length aDu') := R1.out 7
      have hc8 : w2.cell? ⟨q, 8, none⟩ = some (.string W.R.out) := R1.out 8
      have hc9 : w2.cell? ⟨q, 9, none⟩ = some (.string W.R.inp) := R1.out 9
      have hc10 : w2.cell? ⟨q, 10, none⟩ = some (.int .i64 W.R.how) := R1.out 10
      have hc11 : w2.cell? ⟨q, 11, none⟩ = some (.int .i64 W.R.exit) := R1.out 11
      have hc12 : w2.cell? ⟨q, 12, none⟩ = some (.slice aSn W.R.snaps.length aSn') := R1.out 12
      refine wpOp_step rfl (fun K' hK => ?_)
      go_simp
      exact hK _ _ ⟨_, bit_set hL hsz 2 (by omega), fun jx => if jx = 7 then .agg #[.slice aL W.L.length aL', .slice aD W.dead.length aD', .int .i64 W.last, .int .i64 W.R.proc, .int .i64 W.R.frame, .slice aRe W.R.ready.length aRe', .slice aWa W.R.wait.length aWa', .slice aDu W.R.due.length aDu', .string W.R.out, .string W.R.inp, .int .i64 W.R.how, .int .i64 W.R.exit, .slice aSn W.R.snaps.length aSn'] else s jx, by first | (simp [frTD8]; done) | (simp [frTD8]; rfl), by simpa using hsz, ⟨I.x, I.bq, I.b3, I.v0, I.v1, fun _ => rfl, I.v3, I.v4, I.v5, I.v6, I.v7, I.v8, I.v9, I.v10, I.v11, I.v12, I.v13, I.v14, I.v15, I.v16, I.v17, I.v18, I.v19, I.v20, I.v21, I.v22, I.v23, I.v24, I.v25, I.v26, I.v27, I.v28, I.v29, I.v30, I.v31, I.v32, I.v33, I.v34, I.v35, I.v36, I.v37, I.v38, I.v39, I.v40, I.v41, I.v42⟩⟩
    · -- operation 3
      simp [hL, Region.binds] at hdep
      have d2 : L 2 = true := by simp [hdep]
      have e2 := I.v2 d2
      refine wpOp_step rfl (fun K' hK => ?_)
      rw [e2]
      go_simp
      refine (CRr.out _ I.x).mono ?_
      rintro e w3 ⟨A, c, rfl, ho, x3⟩
      have J := I.ext x3
      exact hK _ _ ⟨_, bit_set hL hsz 3 (by omega), fun jx => if jx = 8 then .slice A (rootsOf W.R).length c else s jx, by first | (simp [frTD8, e2]; done) | (simp [frTD8, e2]; rfl), by simpa using hsz, ⟨J.x, J.bq, J.b3, J.v0, J.v1, J.v2, (fun _ => ⟨A, c, rfl, ho⟩), J.v4, J.v5, J.v6, J.v7, J.v8, J.v9, J.v10, J.v11, J.v12, J.v13, J.v14, J.v15, J.v16, J.v17, J.v18, J.v19, J.v20, J.v21, J.v22, J.v23, J.v24, J.v25, J.v26, J.v27, J.v28, J.v29, J.v30, J.v31, J.v32, J.v33, J.v34, J.v35, J.v36, J.v37, J.v38, J.v39, J.v40, J.v41, J.v42⟩⟩
    · -- operation 4
      simp [hL, Region.binds] at hdep
      have d1 : L 1 = true := by simp [hdep]
      have d3 : L 3 = true := by simp [hdep]
      obtain ⟨a1, c1, e1, h1⟩ := I.v1 d1
      obtain ⟨a3, c3, e3, h3⟩ := I.v3 d3
      refine wpOp_step rfl (fun K' hK => ?_)
      rw [e1, e3]
      go_simp
      refine (ints_true h1 h3).mono ?_
      rintro e w3 ⟨rfl, x3⟩
      have J := I.ext x3
      exact hK _ _ ⟨_, bit_set hL hsz 4 (by omega), fun jx => if jx = 9 then .bool true else s jx, by first | (simp [frTD8, e1, e3]; done) | (simp [frTD8, e1, e3]; rfl), by simpa using hsz, ⟨J.x, J.bq, J.b3, J.v0, J.v1, J.v2, J.v3, fun _ => rfl, J.v5, J.v6, J.v7, J.v8, J.v9, J.v10, J.v11, J.v12, J.v13, J.v14, J.v15, J.v16, J.v17, J.v18, J.v19, J.v20, J.v21, J.v22, J.v23, J.v24, J.v25, J.v26, J.v27, J.v28, J.v29, J.v30, J.v31, J.v32, J.v33, J.v34, J.v35, J.v36, J.v37, J.v38, J.v39, J.v40, J.v41, J.v42⟩⟩
    · -- operation 5
      simp [hL, Region.binds] at hdep
      have d4 : L 4 = true := by simp [hdep]
      have e4 := I.v4 d4
      refine wpOp_step rfl (fun K' hK => ?_)
      rw [e4]
      go_simp
      exact hK _ _ ⟨_, bit_set hL hsz 5 (by omega), fun jx => if jx = 10 then .bool true else s jx, by first | (simp [frTD8, e4]; done) | (simp [frTD8, e4]; rfl), by simpa using hsz, ⟨I.x, I.bq, I.b3, I.v0, I.v1, I.v2, I.v3, I.v4, fun _ => rfl, I.v6, I.v7, I.v8, I.v9, I.v10, I.v11, I.v12, I.v13, I.v14, I.v15, I.v16, I.v17, I.v18, I.v19, I.v20, I.v21, I.v22, I.v23, I.v24, I.v25, I.v26, I.v27, I.v28, I.v29, I.v30, I.v31, I.v32, I.v33, I.v34, I.v35, I.v36, I.v37, I.v38, I.v39, I.v40, I.v41, I.v42⟩⟩
    · -- operation 6
      simp [hL, Region.binds] at hdep
      have d5 : L 5 = true := by simp [hdep]
      have e5 := I.v5 d5
      have R1 := Lib.hid I.bq.cell
      have lq := I.bq.lt
      have hc0 : w2.cell? ⟨q, 0, none⟩ = some (.slice aL W.L.length aL') := R1.out 0
      have hc1 : w2.cell? ⟨q, 1, none⟩ = some (.slice aD W.dead.length aD') := R1.out 1
      have hc2 : w2.cell? ⟨q, 2, none⟩ = some (.int .i64 W.last) := R1.out 2
      have hc3 : w2.cell? ⟨q, 3, none⟩ = some (.int .i64 W.R.proc) := R1.out 3
      have hc4 : w2.cell? ⟨q, 4, none⟩ = some (.int .i64 W.R.frame) := R1.out 4
      have hc5 : w2.cell? ⟨q, 5, none⟩ = some (.slice aRe W.R.ready.length aRe') := R1.out 5
      have hc6 : w2.cell? ⟨q, 6, none⟩ = some (.slice aWa W.R.wait.length aWa') := R1.out 6
      have hc7 : w2.cell? ⟨q, 7, none⟩ = some (.slice aDu W.R.due.length aDu') := R1.out 7
      have hc8 : w2.cell? ⟨q, 8, none⟩ = some (.string W.R.out) := R1.out 8
      have hc9 : w2.cell? ⟨q, 9, none⟩ = some (.string W.R.inp) := R1.out 9
      have hc10 : w2.cell? ⟨q, 10, none⟩ = some (.int .i64 W.R.how) := R1.out 10
      have hc11 : w2.cell? ⟨q, 11, none⟩ = some (.int .i64 W.R.exit) := R1.out 11
      have hc12 : w2.cell? ⟨q, 12, none⟩ = some (.slice aSn W.R.snaps.length aSn') := R1.out 12
      refine wpOp_step rfl (fun K' hK => ?_)
      rw [e5]
      go_simp
      exact hK _ _ ⟨_, bit_set hL hsz 6 (by omega), fun jx => if jx = 11 then .agg #[.slice aL W.L.length aL', .slice aD W.dead.length aD', .int .i64 W.last, .int .i64 W.R.proc, .int .i64 W.R.frame, .slice aRe W.R.ready.length aRe', .slice aWa W.R.wait.length aWa', .slice aDu W.R.due.length aDu', .string W.R.out, .string W.R.inp, .int .i64 W.R.how, .int .i64 W.R.exit, .slice aSn W.R.snaps.length aSn'] else s jx, by first | (simp [frTD8, e5]; done) | (simp [frTD8, e5]; rfl), by simpa using hsz, ⟨I.x, I.bq, I.b3, I.v0, I.v1, I.v2, I.v3, I.v4, I.v5, fun _ => rfl, I.v7, I.v8, I.v9, I.v10, I.v11, I.v12, I.v13, I.v14, I.v15, I.v16, I.v17, I.v18, I.v19, I.v20, I.v21, I.v22, I.v23, I.v24, I.v25, I.v26, I.v27, I.v28, I.v29, I.v30, I.v31, I.v32, I.v33, I.v34, I.v35, I.v36, I.v37, I.v38, I.v39, I.v40, I.v41, I.v42⟩⟩
    · -- operation 7
      simp [hL, Region.binds] at hdep
      have d6 : L 6 = true := by simp [hdep]
      have d5 : L 5 = true := by simp [hdep]
      have e6 := I.v6 d6
      have e5 := I.v5 d5
      refine wpOp_step rfl (fun K' hK => ?_)
      rw [e6, e5]
      go_simp
      refine (CSt.out _ I.x).mono ?_
      rintro e w3 ⟨l, g, rfl, hr, hb, x3⟩
      have J := I.ext x3
      exact hK _ _ ⟨_, bit_set hL hsz 7 (by omega), fun jx => if jx = 12 then .slice (some ⟨g, 0, none⟩) W.L.length W.L.length else s jx, by first | (simp [frTD8, e6, e5]; done) | (simp [frTD8, e6, e5]; rfl), by simpa using hsz, ⟨J.x, J.bq, J.b3, J.v0, J.v1, J.v2, J.v3, J.v4, J.v5, J.v6, (fun _ => ⟨l, g, rfl, hr, hb⟩), J.v8, J.v9, J.v10, J.v11, J.v12, J.v13, J.v14, J.v15, J.v16, J.v17, J.v18, J.v19, J.v20, J.v21, J.v22, J.v23, J.v24, J.v25, J.v26, J.v27, J.v28, J.v29, J.v30, J.v31, J.v32, J.v33, J.v34, J.v35, J.v36, J.v37, J.v38, J.v39, J.v40, J.v41, J.v42⟩⟩
    · -- operation 8
      simp [hL, Region.binds] at hdep
      have d5 : L 5 = true := by simp [hdep]
      have e5 := I.v5 d5
      have R1 := Lib.hid I.bq.cell
      have lq := I.bq.lt
      have hc0 : w2.cell? ⟨q, 0, none⟩ = some (.slice aL W.L.length aL') := R1.out 0
      have hc1 : w2.cell? ⟨q, 1, none⟩ = some (.slice aD W.dead.length aD') := R1.out 1
      have hc2 : w2.cell? ⟨q, 2, none⟩ = some (.int .i64 W.last) := R1.out 2
      have hc3 : w2.cell? ⟨q, 3, none⟩ = some (.int .i64 W.R.proc) := R1.out 3
      have hc4 : w2.cell? ⟨q, 4, none⟩ = some (.int .i64 W.R.frame) := R1.out 4
      have hc5 : w2.cell? ⟨q, 5, none⟩ = some (.slice aRe W.R.ready.length aRe') := R1.out 5
      have hc6 : w2.cell? ⟨q, 6, none⟩ = some (.slice aWa W.R.wait.length aWa') := R1.out 6
      have hc7 : w2.cell? ⟨q, 7, none⟩ = some (.slice aDu W.R.due.length aDu') := R1.out 7
      have hc8 : w2.cell? ⟨q, 8, none⟩ = some (.string W.R.out) := R1.out 8
      have hc9 : w2.cell? ⟨q, 9, none⟩ = some (.string W.R.inp) := R1.out 9
      have hc10 : w2.cell? ⟨q, 10, none⟩ = some (.int .i64 W.R.how) := R1.out 10
      have hc11 : w2.cell? ⟨q, 11, none⟩ = some (.int .i64 W.R.exit) := R1.out 11
      have hc12 : w2.cell? ⟨q, 12, none⟩ = some (.slice aSn W.R.snaps.length aSn') := R1.out 12
      refine wpOp_step rfl (fun K' hK => ?_)
      rw [e5]
      go_simp
      exact hK _ _ ⟨_, bit_set hL hsz 8 (by omega), fun jx => if jx = 13 then .agg #[.slice aL W.L.length aL', .slice aD W.dead.length aD', .int .i64 W.last, .int .i64 W.R.proc, .int .i64 W.R.frame, .slice aRe W.R.ready.length aRe', .slice aWa W.R.wait.length aWa', .slice aDu W.R.due.length aDu', .string W.R.out, .string W.R.inp, .int .i64 W.R.how, .int .i64 W.R.exit, .slice aSn W.R.snaps.length aSn'] else s jx, by first | (simp [frTD8, e5]; done) | (simp [frTD8, e5]; rfl), by simpa using hsz, ⟨I.x, I.bq, I.b3, I.v0, I.v1, I.v2, I.v3, I.v4, I.v5, I.v6, I.v7, fun _ => rfl, I.v9, I.v10, I.v11, I.v12, I.v13, I.v14, I.v15, I.v16, I.v17, I.v18, I.v19, I.v20, I.v21, I.v22, I.v23, I.v24, I.v25, I.v26, I.v27, I.v28, I.v29, I.v30, I.v31, I.v32, I.v33, I.v34, I.v35, I.v36, I.v37, I.v38, I.v39, I.v40, I.v41, I.v42⟩⟩
    · -- operation 9
      simp [hL, Region.binds] at hdep
      have d8 : L 8 = true := by simp [hdep]
      have d5 : L 5 = true := by simp [hdep]
      have e8 := I.v8 d8
      have e5 := I.v5 d5
      refine wpOp_step rfl (fun K' hK => ?_)
      rw [e8, e5]
      go_simp
      refine (CSr.out _ I.x).mono ?_
      rintro e w3 ⟨l, g, rfl, hr, hb, x3⟩
      have J := I.ext x3
      exact hK _ _ ⟨_, bit_set hL hsz 9 (by omega), fun jx => if jx = 14 then .slice (some ⟨g, 0, none⟩) W.L.length W.L.length else s jx, by first | (simp [frTD8, e8, e5]; done) | (simp [frTD8, e8, e5]; rfl), by simpa using hsz, ⟨J.x, J.bq, J.b3, J.v0, J.v1, J.v2, J.v3, J.v4, J.v5, J.v6, J.v7, J.v8, (fun _ => ⟨l, g, rfl, hr, hb⟩), J.v10, J.v11, J.v12, J.v13, J.v14, J.v15, J.v16, J.v17, J.v18, J.v19, J.v20, J.v21, J.v22, J.v23, J.v24, J.v25, J.v26, J.v27, J.v28, J.v29, J.v30, J.v31, J.v32, J.v33, J.v34, J.v35, J.v36, J.v37, J.v38, J.v39, J.v40, J.v41, J.v42⟩⟩
    · -- operation 10
      simp [hL, Region.binds] at hdep
      have d7 : L 7 = true := by simp [hdep]
      have d9 : L 9 = true := by simp [hdep]
      have d5 : L 5 = true := by simp [hdep]
      obtain ⟨l7, g7, e7, r7, h7⟩ := I.v7 d7
      obtain ⟨l9, g9, e9, r9, h9⟩ := I.v9 d9
      have e5 := I.v5 d5
      refine wpOp_step rfl (fun K' hK => ?_)
      rw [e7, e9, e5]
      go_simp
      refine (bools_true r7 r9 h7 h9).mono ?_
      rintro e w3 ⟨rfl, x3⟩
      have J := I.ext x3
      exact hK _ _ ⟨_, bit_set hL hsz 10 (by omega), fun jx => if jx = 15 then .bool true else s jx, by first | (simp [frTD8, e7, e9, e5]; done) | (simp [frTD8, e7, e9, e5]; rfl), by simpa using hsz, ⟨J.x, J.bq, J.b3, J.v0, J.v1, J.v2, J.v3, J.v4, J.v5, J.v6, J.v7, J.v8, J.v9, fun _ => rfl, J.v11, J.v12, J.v13, J.v14, J.v15, J.v16, J.v17, J.v18, J.v19, J.v20, J.v21, J.v22, J.v23, J.v24, J.v25, J.v26, J.v27, J.v28, J.v29, J.v30, J.v31, J.v32, J.v33, J.v34, J.v35, J.v36, J.v37, J.v38, J.v39, J.v40, J.v41, J.v42⟩⟩
    · -- operation 11
      simp [hL, Region.binds] at hdep
      have d5 : L 5 = true := by simp [hdep]
      have d10 : L 10 = true := by simp [hdep]
      have e5 := I.v5 d5
      have e10 := I.v10 d10
      refine wpOp_step rfl (fun K' hK => ?_)
      rw [e5, e10]
      go_simp
      exact hK _ _ ⟨_, bit_set hL hsz 11 (by omega), fun jx => if jx = 16 then .bool true else s jx, by first | (simp [frTD8, e5, e10]; done) | (simp [frTD8, e5, e10]; rfl), by simpa using hsz, ⟨I.x, I.bq, I.b3, I.v0, I.v1, I.v2, I.v3, I.v4, I.v5, I.v6, I.v7, I.v8, I.v9, I.v10, fun _ => rfl, I.v12, I.v13, I.v14, I.v15, I.v16, I.v17, I.v18, I.v19, I.v20, I.v21, I.v22, I.v23, I.v24, I.v25, I.v26, I.v27, I.v28, I.v29, I.v30, I.v31, I.v32, I.v33, I.v34, I.v35, I.v36, I.v37, I.v38, I.v39, I.v40, I.v41, I.v42⟩⟩
    · -- operation 12
      simp [hL, Region.binds] at hdep
      have d11 : L 11 = true := by simp [hdep]
      have e11 := I.v11 d11
      refine wpOp_step rfl (fun K' hK => ?_)
      rw [e11]
      go_simp
      exact hK _ _ ⟨_, bit_set hL hsz 12 (by omega), fun jx => if jx = 17 then .bool true else s jx, by first | (simp [frTD8, e11]; done) | (simp [frTD8, e11]; rfl), by simpa using hsz, ⟨I.x, I.bq, I.b3, I.v0, I.v1, I.v2, I.v3, I.v4, I.v5, I.v6, I.v7, I.v8, I.v9, I.v10, I.v11, fun _ => rfl, I.v13, I.v14, I.v15, I.v16, I.v17, I.v18, I.v19, I.v20, I.v21, I.v22, I.v23, I.v24, I.v25, I.v26, I.v27, I.v28, I.v29, I.v30, I.v31, I.v32, I.v33, I.v34, I.v35, I.v36, I.v37, I.v38, I.v39, I.v40, I.v41, I.v42⟩⟩
    · -- operation 13
      simp [hL, Region.binds] at hdep
      have d12 : L 12 = true := by simp [hdep]
      have e12 := I.v12 d12
      have R1 := Lib.hid I.bq.cell
      have lq := I.bq.lt
      have hc0 : w2.cell? ⟨q, 0, none⟩ = some (.slice aL W.L.length aL') := R1.out 0
      have hc1 : w2.cell? ⟨q, 1, none⟩ = some (.slice aD W.dead.length aD') := R1.out 1
      have hc2 : w2.cell? ⟨q, 2, none⟩ = some (.int .i64 W.last) := R1.out 2
      have hc3 : w2.cell? ⟨q, 3, none⟩ = some (.int .i64 W.R.proc) := R1.out 3
      have hc4 : w2.cell? ⟨q, 4, none⟩ = some (.int .i64 W.R.frame) := R1.out 4
      have hc5 : w2.cell? ⟨q, 5, none⟩ = some (.slice aRe W.R.ready.length aRe') := R1.out 5
      have hc6 : w2.cell? ⟨q, 6, none⟩ = some (.slice aWa W.R.wait.length aWa') := R1.out 6
      have hc7 : w2.cell? ⟨q, 7, none⟩ = some (.slice aDu W.R.due.length aDu') := R1.out 7
      have hc8 : w2.cell? ⟨q, 8, none⟩ = some (.string W.R.out) := R1.out 8
      have hc9 : w2.cell? ⟨q, 9, none⟩ = some (.string W.R.inp) := R1.out 9
      have hc10 : w2.cell? ⟨q, 10, none⟩ = some (.int .i64 W.R.how) := R1.out 10
      have hc11 : w2.cell? ⟨q, 11, none⟩ = some (.int .i64 W.R.exit) := R1.out 11
      have hc12 : w2.cell? ⟨q, 12, none⟩ = some (.slice aSn W.R.snaps.length aSn') := R1.out 12
      refine wpOp_step rfl (fun K' hK => ?_)
      rw [e12]
      go_simp
      exact hK _ _ ⟨_, bit_set hL hsz 13 (by omega), fun jx => if jx = 18 then .agg #[.slice aL W.L.length aL', .slice aD W.dead.length aD', .int .i64 W.last, .int .i64 W.R.proc, .int .i64 W.R.frame, .slice aRe W.R.ready.length aRe', .slice aWa W.R.wait.length aWa', .slice aDu W.R.due.length aDu', .string W.R.out, .string W.R.inp, .int .i64 W.R.how, .int .i64 W.R.exit, .slice aSn W.R.snaps.length aSn'] else s jx, by first | (simp [frTD8, e12]; done) | (simp [frTD8, e12]; rfl), by simpa using hsz, ⟨I.x, I.bq, I.b3, I.v0, I.v1, I.v2, I.v3, I.v4, I.v5, I.v6, I.v7, I.v8, I.v9, I.v10, I.v11, I.v12, fun _ => rfl, I.v14, I.v15, I.v16, I.v17, I.v18, I.v19, I.v20, I.v21, I.v22, I.v23, I.v24, I.v25, I.v26, I.v27, I.v28, I.v29, I.v30, I.v31, I.v32, I.v33, I.v34, I.v35, I.v36, I.v37, I.v38, I.v39, I.v40, I.v41, I.v42⟩⟩
    · -- operation 14
      simp [hL, Region.binds] at hdep
      have d13 : L 13 = true := by simp [hdep]
      have d12 : L 12 = true := by simp [hdep]
      have e13 := I.v13 d13
      have e12 := I.v12 d12
      refine wpOp_step rfl (fun K' hK => ?_)
      rw [e13, e12]
      go_simp
      refine (CAl.out _ I.x).mono ?_
      rintro e w3 ⟨l, g, rfl, hr, hb, x3⟩
      have J := I.ext x3
      exact hK _ _ ⟨_, bit_set hL hsz 14 (by omega), fun jx => if jx = 19 then .slice (some ⟨g, 0, none⟩) W.L.length W.L.length else s jx, by first | (simp [frTD8, e13, e12]; done) | (simp [frTD8, e13, e12]; rfl), by simpa using hsz, ⟨J.x, J.bq, J.b3, J.v0, J.v1, J.v2, J.v3, J.v4, J.v5, J.v6, J.v7, J.v8, J.v9, J.v10, J.v11, J.v12, J.v13, (fun _ => ⟨l, g, rfl, hr, hb⟩), J.v15, J.v16, J.v17, J.v18, J.v19, J.v20, J.v21, J.v22, J.v23, J.v24, J.v25, J.v26, J.v27, J.v28, J.v29, J.v30, J.v31, J.v32, J.v33, J.v34, J.v35, J.v36, J.v37, J.v38, J.v39, J.v40, J.v41, J.v42⟩⟩
    · -- operation 15
      simp [hL, Region.binds] at hdep
      have d12 : L 12 = true := by simp [hdep]
      have e12 := I.v12 d12
      have R1 := Lib.hid I.bq.cell
      have lq := I.bq.lt
      have hc0 : w2.cell? ⟨q, 0, none⟩ = some (.slice aL W.L.length aL') := R1.out 0
      have hc1 : w2.cell? ⟨q, 1, none⟩ = some (.slice aD W.dead.length aD') := R1.out 1
      have hc2 : w2.cell? ⟨q, 2, none⟩ = some (.int .i64 W.last) := R1.out 2
      have hc3 : w2.cell? ⟨q, 3, none⟩ = some (.int .i64 W.R.proc) := R1.out 3
      have hc4 : w2.cell? ⟨q, 4, none⟩ = some (.int .i64 W.R.frame) := R1.out 4
      have hc5 : w2.cell? ⟨q, 5, none⟩ = some (.slice aRe W.R.ready.length aRe') := R1.out 5
      have hc6 : w2.cell? ⟨q, 6, none⟩ = some (.slice aWa W.R.wait.length aWa') := R1.out 6
      have hc7 : w2.cell? ⟨q, 7, none⟩ = some (.slice aDu W.R.due.length aDu') := R1.out 7
      have hc8 : w2.cell? ⟨q, 8, none⟩ = some (.string W.R.out) := R1.out 8
      have hc9 : w2.cell? ⟨q, 9, none⟩ = some (.string W.R.inp) := R1.out 9
      have hc10 : w2.cell? ⟨q, 10, none⟩ = some (.int .i64 W.R.how) := R1.out 10
      have hc11 : w2.cell? ⟨q, 11, none⟩ = some (.int .i64 W.R.exit) := R1.out 11
      have hc12 : w2.cell? ⟨q, 12, none⟩ = some (.slice aSn W.R.snaps.length aSn') := R1.out 12
      refine wpOp_step rfl (fun K' hK => ?_)
      rw [e12]
      go_simp
      exact hK _ _ ⟨_, bit_set hL hsz 15 (by omega), fun jx => if jx = 20 then .agg #[.slice aL W.L.length aL', .slice aD W.dead.length aD', .int .i64 W.last, .int .i64 W.R.proc, .int .i64 W.R.frame, .slice aRe W.R.ready.length aRe', .slice aWa W.R.wait.length aWa', .slice aDu W.R.due.length aDu', .string W.R.out, .string W.R.inp, .int .i64 W.R.how, .int .i64 W.R.exit, .slice aSn W.R.snaps.length aSn'] else s jx, by first | (simp [frTD8, e12]; done) | (simp [frTD8, e12]; rfl), by simpa using hsz, ⟨I.x, I.bq, I.b3, I.v0, I.v1, I.v2, I.v3, I.v4, I.v5, I.v6, I.v7, I.v8, I.v9, I.v10, I.v11, I.v12, I.v13, I.v14, fun _ => rfl, I.v16, I.v17, I.v18, I.v19, I.v20, I.v21, I.v22, I.v23, I.v24, I.v25, I.v26, I.v27, I.v28, I.v29, I.v30, I.v31, I.v32, I.v33, I.v34, I.v35, I.v36, I.v37, I.v38, I.v39, I.v40, I.v41, I.v42⟩⟩
    · -- operation 16
      simp [hL, Region.binds] at hdep
      have d15 : L 15 = true := by simp [hdep]
      have d12 : L 12 = true := by simp [hdep]
      have e15 := I.v15 d15
      have e12 := I.v12 d12
      refine wpOp_step rfl (fun K' hK => ?_)
      rw [e15, e12]
      go_simp
      refine (CAr.out _ I.x).mono ?_
      rintro e w3 ⟨l, g, rfl, hr, hb, x3⟩
      have J := I.ext x3
      exact hK _ _ ⟨_, bit_set hL hsz 16 (by omega), fun jx => if jx = 21 then .slice (some ⟨g, 0, none⟩) W.L.length W.L.length else s jx, by first | (simp [frTD8, e15, e12]; done) | (simp [frTD8, e15, e12]; rfl), by simpa using hsz, ⟨J.x, J.bq, J.b3, J.v0, J.v1, J.v2, J.v3, J.v4, J.v5, J.v6, J.v7, J.v8, J.v9, J.v10, J.v11, J.v12, J.v13, J.v14, J.v15, (fun _ => ⟨l, g, rfl, hr, hb⟩), J.v17, J.v18, J.v19, J.v20, J.v21, J.v22, J.v23, J.v24, J.v25, J.v26, J.v27, J.v28, J.v29, J.v30, J.v31, J.v32, J.v33, J.v34, J.v35, J.v36, J.v37, J.v38, J.v39, J.v40, J.v41, J.v42⟩⟩
    · -- operation 17
      simp [hL, Region.binds] at hdep
      have d14 : L 14 = true := by simp [hdep]
      have d16 : L 16 = true := by simp [hdep]
      have d12 : L 12 = true := by simp [hdep]
      obtain ⟨l14, g14, e14, r14, h14⟩ := I.v14 d14
      obtain ⟨l16, g16, e16, r16, h16⟩ := I.v16 d16
      have e12 := I.v12 d12
      refine wpOp_step rfl (fun K' hK => ?_)
      rw [e14, e16, e12]
      go_simp
      refine (bools_true r14 r16 h14 h16).mono ?_
      rintro e w3 ⟨rfl, x3⟩
      have J := I.ext x3
      exact hK _ _ ⟨_, bit_set hL hsz 17 (by omega), fun jx => if jx = 22 then .bool true else s jx, by first | (simp [frTD8, e14, e16, e12]; done) | (simp [frTD8, e14, e16, e12]; rfl), by simpa using hsz, ⟨J.x, J.bq, J.b3, J.v0, J.v1, J.v2, J.v3, J.v4, J.v5, J.v6, J.v7, J.v8, J.v9, J.v10, J.v11, J.v12, J.v13, J.v14, J.v15, J.v16, fun _ => rfl, J.v18, J.v19, J.v20, J.v21, J.v22, J.v23, J.v24, J.v25, J.v26, J.v27, J.v28, J.v29, J.v30, J.v31, J.v32, J.v33, J.v34, J.v35, J.v36, J.v37, J.v38, J.v39, J.v40, J.v41, J.v42⟩⟩
    · -- operation 18
      simp [hL, Region.binds] at hdep
      have d12 : L 12 = true := by simp [hdep]
      have d17 : L 17 = true := by simp [hdep]
      have e12 := I.v12 d12
      have e17 := I.v17 d17
      refine wpOp_step rfl (fun K' hK => ?_)
      rw [e12, e17]
      go_simp
      exact hK _ _ ⟨_, bit_set hL hsz 18 (by omega), fun jx => if jx = 23 then .bool true else s jx, by first | (simp [frTD8, e12, e17]; done) | (simp [frTD8, e12, e17]; rfl), by simpa using hsz, ⟨I.x, I.bq, I.b3, I.v0, I.v1, I.v2, I.v3, I.v4, I.v5, I.v6, I.v7, I.v8, I.v9, I.v10, I.v11, I.v12, I.v13, I.v14, I.v15, I.v16, I.v17, fun _ => rfl, I.v19, I.v20, I.v21, I.v22, I.v23, I.v24, I.v25, I.v26, I.v27, I.v28, I.v29, I.v30, I.v31, I.v32, I.v33, I.v34, I.v35, I.v36, I.v37, I.v38, I.v39, I.v40, I.v41, I.v42⟩⟩
    · -- operation 19
      simp [hL, Region.binds] at hdep
      have d18 : L 18 = true := by simp [hdep]
      have e18 := I.v18 d18
      refine wpOp_step rfl (fun K' hK => ?_)
      rw [e18]
      go_simp
      exact hK _ _ ⟨_, bit_set hL hsz 19 (by omega), fun jx => if jx = 24 then .bool true else s jx, by first | (simp [frTD8, e18]; done) | (simp [frTD8, e18]; rfl), by simpa using hsz, ⟨I.x, I.bq, I.b3, I.v0, I.v1, I.v2, I.v3, I.v4, I.v5, I.v6, I.v7, I.v8, I.v9, I.v10, I.v11, I.v12, I.v13, I.v14, I.v15, I.v16, I.v17, I.v18, fun _ => rfl, I.v20, I.v21, I.v22, I.v23, I.v24, I.v25, I.v26, I.v27, I.v28, I.v29, I.v30, I.v31, I.v32, I.v33, I.v34, I.v35, I.v36, I.v37, I.v38, I.v39, I.v40, I.v41, I.v42⟩⟩
    · -- operation 20
      simp [hL, Region.binds] at hdep
      have d19 : L 19 = true := by simp [hdep]
      have e19 := I.v19 d19
      have R1 := Lib.hid I.bq.cell
      have lq := I.bq.lt
      have hc0 : w2.cell? ⟨q, 0, none⟩ = some (.slice aL W.L.length aL') := R1.out 0
      have hc1 : w2.cell? ⟨q, 1, none⟩ = some (.slice aD W.dead.length aD') := R1.out 1
      have hc2 : w2.cell? ⟨q, 2, none⟩ = some (.int .i64 W.last) := R1.out 2
      have hc3 : w2.cell? ⟨q, 3, none⟩ = some (.int .i64 W.R.proc) := R1.out 3
      have hc4 : w2.cell? ⟨q, 4, none⟩ = some (.int .i64 W.R.frame) := R1.out 4
      have hc5 : w2.cell? ⟨q, 5, none⟩ = some (.slice aRe W.R.ready.length aRe') := R1.out 5
      have hc6 : w2.cell? ⟨q, 6, none⟩ = some (.slice aWa W.R.wait.length aWa') := R1.out 6
      have hc7 : w2.cell? ⟨q, 7, none⟩ = some (.slice aDu W.R.due.length aDu') := R1.out 7
      have hc8 : w2.cell? ⟨q, 8, none⟩ = some (.string W.R.out) := R1.out 8
      have hc9 : w2.cell? ⟨q, 9, none⟩ = some (.string W.R.inp) := R1.out 9
      have hc10 : w2.cell? ⟨q, 10, none⟩ = some (.int .i64 W.R.how) := R1.out 10
      have hc11 : w2.cell? ⟨q, 11, none⟩ = some (.int .i64 W.R.exit) := R1.out 11
      have hc12 : w2.cell? ⟨q, 12, none⟩ = some (.slice aSn W.R.snaps.length aSn') := R1.out 12
      refine wpOp_step rfl (fun K' hK => ?_)
      rw [e19]
      go_simp
      exact hK _ _ ⟨_, bit_set hL hsz 20 (by omega), fun jx => if jx = 25 then .agg #[.slice aL W.L.length aL', .slice aD W.dead.length aD', .int .i64 W.last, .int .i64 W.R.proc, .int .i64 W.R.frame, .slice aRe W.R.ready.length aRe', .slice aWa W.R.wait.length aWa', .slice aDu W.R.due.length aDu', .string W.R.out, .string W.R.inp, .int .i64 W.R.how, .int .i64 W.R.exit, .slice aSn W.R.snaps.length aSn'] else s jx, by first | (simp [frTD8, e19]; done) | (simp [frTD8, e19]; rfl), by simpa using hsz, ⟨I.x, I.bq, I.b3, I.v0, I.v1, I.v2, I.v3, I.v4, I.v5, I.v6, I.v7, I.v8, I.v9, I.v10, I.v11, I.v12, I.v13, I.v14, I.v15, I.v16, I.v17, I.v18, I.v19, fun _ => rfl, I.v21, I.v22, I.v23, I.v24, I.v25, I.v26, I.v27, I.v28, I.v29, I.v30, I.v31, I.v32, I.v33, I.v34, I.v35, I.v36, I.v37, I.v38, I.v39, I.v40, I.v41, I.v42⟩⟩
    · -- operation 21
      simp [hL, Region.binds] at hdep
      have d20 : L 20 = true := by simp [hdep]
      have d19 : L 19 = true := by simp [hdep]
      have e20 := I.v20 d20
      have e19 := I.v19 d19
      refine wpOp_step rfl (fun K' hK => ?_)
      rw [e20, e19]
      go_simp
      refine (CWo.out _ I.x).mono ?_
      rintro e w3 ⟨x, rfl, hx, x3⟩
      have J := I.ext x3
      exact hK _ _ ⟨_, bit_set hL hsz 21 (by omega), fun jx => if jx = 26 then .agg (cellsW W x) else s jx, by first | (simp [frTD8, e20, e19, cellsW]; done) | (simp [frTD8, e20, e19, cellsW]; rfl), by simpa using hsz, ⟨J.x, J.bq, J.b3, J.v0, J.v1, J.v2, J.v3, J.v4, J.v5, J.v6, J.v7, J.v8, J.v9, J.v10, J.v11, J.v12, J.v13, J.v14, J.v15, J.v16, J.v17, J.v18, J.v19, J.v20, (fun _ => ⟨x, rfl, hx⟩), J.v22, J.v23, J.v24, J.v25, J.v26, J.v27, J.v28, J.v29, J.v30, J.v31, J.v32, J.v33, J.v34, J.v35, J.v36, J.v37, J.v38, J.v39, J.v40, J.v41, J.v42⟩⟩
    · -- operation 22
      simp [hL, Region.binds] at hdep
      have d21 : L 21 = true := by simp [hdep]
      have d19 : L 19 = true := by simp [hdep]
      obtain ⟨x21, e21, h21⟩ := I.v21 d21
      have e19 := I.v19 d19
      refine wpOp_step rfl (fun K' hK => ?_)
      rw [e21, e19]
      unfold cellsW
      go_simp
      refine (canon_i h21 hcW).mono ?_
      rintro e w3 ⟨l, x, rfl, hr, hx, x3⟩
      have J := I.ext x3
      exact hK _ _ ⟨_, bit_set hL hsz 22 (by omega), fun jx => if jx = 27 then .agg (cellsW (canonW W l) x) else s jx, by first | (simp [frTD8, e21, e19, cellsW]; done) | (simp [frTD8, e21, e19, cellsW]; rfl), by simpa using hsz, ⟨J.x, J.bq, J.b3, J.v0, J.v1, J.v2, J.v3, J.v4, J.v5, J.v6, J.v7, J.v8, J.v9, J.v10, J.v11, J.v12, J.v13, J.v14, J.v15, J.v16, J.v17, J.v18, J.v19, J.v20, J.v21, (fun _ => ⟨l, x, rfl, hr, hx⟩), J.v23, J.v24, J.v25, J.v26, J.v27, J.v28, J.v29, J.v30, J.v31, J.v32, J.v33, J.v34, J.v35, J.v36, J.v37, J.v38, J.v39, J.v40, J.v41, J.v42⟩⟩
    · -- operation 23
      simp [hL, Region.binds] at hdep
      have d19 : L 19 = true := by simp [hdep]
      have e19 := I.v19 d19
      have R1 := Lib.hid I.bq.cell
      have lq := I.bq.lt
      have hc0 : w2.cell? ⟨q, 0, none⟩ = some (.slice aL W.L.length aL') := R1.out 0
      have hc1 : w2.cell? ⟨q, 1, none⟩ = some (.slice aD W.dead.length aD') := R1.out 1
      have hc2 : w2.cell? ⟨q, 2, none⟩ = some (.int .i64 W.last) := R1.out 2
      have hc3 : w2.cell? ⟨q, 3, none⟩ = some (.int .i64 W.R.proc) := R1.out 3
      have hc4 : w2.cell? ⟨q, 4, none⟩ = some (.int .i64 W.R.frame) := R1.out 4
      have hc5 : w2.cell? ⟨q, 5, none⟩ = some (.slice aRe W.R.ready.length aRe') := R1.out 5
      have hc6 : w2.cell? ⟨q, 6, none⟩ = some (.slice aWa W.R.wait.length aWa') := R1.out 6
      have hc7 : w2.cell? ⟨q, 7, none⟩ = some (.slice aDu W.R.due.length aDu') := R1.out 7
      have hc8 : w2.cell? ⟨q, 8, none⟩ = some (.string W.R.out) := R1.out 8
      have hc9 : w2.cell? ⟨q, 9, none⟩ = some (.string W.R.inp) := R1.out 9
      have hc10 : w2.cell? ⟨q, 10, none⟩ = some (.int .i64 W.R.how) := R1.out 10
      have hc11 : w2.cell? ⟨q, 11, none⟩ = some (.int .i64 W.R.exit) := R1.out 11
      have hc12 : w2.cell? ⟨q, 12, none⟩ = some (.slice aSn W.R.snaps.length aSn') := R1.out 12
      refine wpOp_step rfl (fun K' hK => ?_)
      rw [e19]
      go_simp
      exact hK _ _ ⟨_, bit_set hL hsz 23 (by omega), fun jx => if jx = 28 then .agg #[.slice aL W.L.length aL', .slice aD W.dead.length aD', .int .i64 W.last, .int .i64 W.R.proc, .int .i64 W.R.frame, .slice aRe W.R.ready.length aRe', .slice aWa W.R.wait.length aWa', .slice aDu W.R.due.length aDu', .string W.R.out, .string W.R.inp, .int .i64 W.R.how, .int .i64 W.R.exit, .slice aSn W.R.snaps.length aSn'] else s jx, by first | (simp [frTD8, e19]; done) | (simp [frTD8, e19]; rfl), by simpa using hsz, ⟨I.x, I.bq, I.b3, I.v0, I.v1, I.v2, I.v3, I.v4, I.v5, I.v6, I.v7, I.v8, I.v9, I.v10, I.v11, I.v12, I.v13, I.v14, I.v15, I.v16, I.v17, I.v18, I.v19, I.v20, I.v21, I.v22, fun _ => rfl, I.v24, I.v25, I.v26, I.v27, I.v28, I.v29, I.v30, I.v31, I.v32, I.v33, I.v34, I.v35, I.v36, I.v37, I.v38, I.v39, I.v40, I.v41, I.v42⟩⟩
    · -- operation 24
      simp [hL, Region.binds] at hdep
      have d23 : L 23 = true := by simp [hdep]
      have d19 : L 19 = true := by simp [hdep]
      have e23 := I.v23 d23
      have e19 := I.v19 d19
      refine wpOp_step rfl (fun K' hK => ?_)
      rw [e23, e19]
      go_simp
      refine (CCr.out _ I.x).mono ?_
      rintro e w3 ⟨l, x, rfl, hr, hx, x3⟩
      have J := I.ext x3
      exact hK _ _ ⟨_, bit_set hL hsz 24 (by omega), fun jx => if jx = 29 then .agg (cellsW (canonW W l) x) else s jx, by first | (simp [frTD8, e23, e19, cellsW]; done) | (simp [frTD8, e23, e19, cellsW]; rfl), by simpa using hsz, ⟨J.x, J.bq, J.b3, J.v0, J.v1, J.v2, J.v3, J.v4, J.v5, J.v6, J.v7, J.v8, J.v9, J.v10, J.v11, J.v12, J.v13, J.v14, J.v15, J.v16, J.v17, J.v18, J.v19, J.v20, J.v21, J.v22, J.v23, (fun _ => ⟨l, x, rfl, hr, hx⟩), J.v25, J.v26, J.v27, J.v28, J.v29, J.v30, J.v31, J.v32, J.v33, J.v34, J.v35, J.v36, J.v37, J.v38, J.v39, J.v40, J.v41, J.v42⟩⟩
    · -- operation 25
      simp [hL, Region.binds] at hdep
      have d22 : L 22 = true := by simp [hdep]
      have d24 : L 24 = true := by simp [hdep]
      have d19 : L 19 = true := by simp [hdep]
      obtain ⟨l22, x22, e22, r22, h22⟩ := I.v22 d22
      obtain ⟨l24, x24, e24, r24, h24⟩ := I.v24 d24
      have e19 := I.v19 d19
      refine wpOp_step rfl (fun K' hK => ?_)
      rw [e22, e24, e19]
      unfold cellsW
      go_simp
      refine (equal_true r22 r24 h22 h24).mono ?_
      rintro e w3 ⟨rfl, x3⟩
      have J := I.ext x3
      exact hK _ _ ⟨_, bit_set hL hsz 25 (by omega), fun jx => if jx = 30 then .bool true else s jx, by first | (simp [frTD8, e22, e24, e19, cellsW]; done) | (simp [frTD8, e22, e24, e19, cellsW]; rfl), by simpa using hsz, ⟨J.x, J.bq, J.b3, J.v0, J.v1, J.v2, J.v3, J.v4, J.v5, J.v6, J.v7, J.v8, J.v9, J.v10, J.v11, J.v12, J.v13, J.v14, J.v15, J.v16, J.v17, J.v18, J.v19, J.v20, J.v21, J.v22, J.v23, J.v24, fun _ => rfl, J.v26, J.v27, J.v28, J.v29, J.v30, J.v31, J.v32, J.v33, J.v34, J.v35, J.v36, J.v37, J.v38, J.v39, J.v40, J.v41, J.v42⟩⟩
    · -- operation 26
      simp [hL, Region.binds] at hdep
      have d19 : L 19 = true := by simp [hdep]
      have d25 : L 25 = true := by simp [hdep]
      have e19 := I.v19 d19
      have e25 := I.v25 d25
      refine wpOp_step rfl (fun K' hK => ?_)
      rw [e19, e25]
      go_simp
      exact hK _ _ ⟨_, bit_set hL hsz 26 (by omega), fun jx => if jx = 31 then .bool true else s jx, by first | (simp [frTD8, e19, e25]; done) | (simp [frTD8, e19, e25]; rfl), by simpa using hsz, ⟨I.x, I.bq, I.b3, I.v0, I.v1, I.v2, I.v3, I.v4, I.v5, I.v6, I.v7, I.v8, I.v9, I.v10, I.v11, I.v12, I.v13, I.v14, I.v15, I.v16, I.v17, I.v18, I.v19, I.v20, I.v21, I.v22, I.v23, I.v24, I.v25, fun _ => rfl, I.v27, I.v28, I.v29, I.v30, I.v31, I.v32, I.v33, I.v34, I.v35, I.v36, I.v37, I.v38, I.v39, I.v40, I.v41, I.v42⟩⟩
    · -- operation 27
      simp [hL, Region.binds] at hdep
      have d26 : L 26 = true := by simp [hdep]
      have e26 := I.v26 d26
      refine wpOp_step rfl (fun K' hK => ?_)
      rw [e26]
      go_simp
      exact hK _ _ ⟨_, bit_set hL hsz 27 (by omega), fun jx => if jx = 32 then .bool true else s jx, by first | (simp [frTD8, e26]; done) | (simp [frTD8, e26]; rfl), by simpa using hsz, ⟨I.x, I.bq, I.b3, I.v0, I.v1, I.v2, I.v3, I.v4, I.v5, I.v6, I.v7, I.v8, I.v9, I.v10, I.v11, I.v12, I.v13, I.v14, I.v15, I.v16, I.v17, I.v18, I.v19, I.v20, I.v21, I.v22, I.v23, I.v24, I.v25, I.v26, fun _ => rfl, I.v28, I.v29, I.v30, I.v31, I.v32, I.v33, I.v34, I.v35, I.v36, I.v37, I.v38, I.v39, I.v40, I.v41, I.v42⟩⟩
    · -- operation 28
      simp [hL, Region.binds] at hdep
      have d27 : L 27 = true := by simp [hdep]
      have e27 := I.v27 d27
      have R1 := Lib.hid I.bq.cell
      have lq := I.bq.lt
      have hc0 : w2.cell? ⟨q, 0, none⟩ = some (.slice aL W.L.length aL') := R1.out 0
      have hc1 : w2.cell? ⟨q, 1, none⟩ = some (.slice aD W.dead.length aD') := R1.out 1
      have hc2 : w2.cell? ⟨q, 2, none⟩ = some (.int .i64 W.last) := R1.out 2
      have hc3 : w2.cell? ⟨q, 3, none⟩ = some (.int .i64 W.R.proc) := R1.out 3
      have hc4 : w2.cell? ⟨q, 4, none⟩ = some (.int .i64 W.R.frame) := R1.out 4
      have hc5 : w2.cell? ⟨q, 5, none⟩ = some (.slice aRe W.R.ready.length aRe') := R1.out 5
      have hc6 : w2.cell? ⟨q, 6, none⟩ = some (.slice aWa W.R.wait.length aWa') := R1.out 6
      have hc7 : w2.cell? ⟨q, 7, none⟩ = some (.slice aDu W.R.due.length aDu') := R1.out 7
      have hc8 : w2.cell? ⟨q, 8, none⟩ = some (.string W.R.out) := R1.out 8
      have hc9 : w2.cell? ⟨q, 9, none⟩ = some (.string W.R.inp) := R1.out 9
      have hc10 : w2.cell? ⟨q, 10, none⟩ = some (.int .i64 W.R.how) := R1.out 10
      have hc11 : w2.cell? ⟨q, 11, none⟩ = some (.int .i64 W.R.exit) := R1.out 11
      have hc12 : w2.cell? ⟨q, 12, none⟩ = some (.slice aSn W.R.snaps.length aSn') := R1.out 12
      refine wpOp_step rfl (fun K' hK => ?_)
      rw [e27]
      go_simp
      exact hK _ _ ⟨_, bit_set hL hsz 28 (by omega), fun jx => if jx = 33 then .agg #[.slice aL W.L.length aL', .slice aD W.dead.length aD', .int .i64 W.last, .int .i64 W.R.proc, .int .i64 W.R.frame, .slice aRe W.R.ready.length aRe', .slice aWa W.R.wait.length aWa', .slice aDu W.R.due.length aDu', .string W.R.out, .string W.R.inp, .int .i64 W.R.how, .int .i64 W.R.exit, .slice aSn W.R.snaps.length aSn'] else s jx, by first | (simp [frTD8, e27]; done) | (simp [frTD8, e27]; rfl), by simpa using hsz, ⟨I.x, I.bq, I.b3, I.v0, I.v1, I.v2, I.v3, I.v4, I.v5, I.v6, I.v7, I.v8, I.v9, I.v10, I.v11, I.v12, I.v13, I.v14, I.v15, I.v16, I.v17, I.v18, I.v19, I.v20, I.v21, I.v22, I.v23, I.v24, I.v25, I.v26, I.v27, fun _ => rfl, I.v29, I.v30, I.v31, I.v32, I.v33, I.v34, I.v35, I.v36, I.v37, I.v38, I.v39, I.v40, I.v41, I.v42⟩⟩
    · -- operation 29
      simp [hL, Region.binds] at hdep
      have d27 : L 27 = true := by simp [hdep]
      have e27 := I.v27 d27
      have R1 := Lib.hid I.b3.cell
      have lq := I.b3.lt
      have hc0 : w2.cell? ⟨q3, 0, none⟩ = some (.slice bL X.L.length bL') := R1.out 0
      have hc1 : w2.cell? ⟨q3, 1, none⟩ = some (.slice bD X.dead.length bD') := R1.out 1
      have hc2 : w2.cell? ⟨q3, 2, none⟩ = some (.int .i64 X.last) := R1.out 2
      have hc3 : w2.cell? ⟨q3, 3, none⟩ = some (.int .i64 X.R.proc) := R1.out 3
      have hc4 : w2.cell? ⟨q3, 4, none⟩ = some (.int .i64 X.R.frame) := R1.out 4
      have hc5 : w2.cell? ⟨q3, 5, none⟩ = some (.slice bRe X.R.ready.length bRe') := R1.out 5
      have hc6 : w2.cell? ⟨q3, 6, none⟩ = some (.slice bWa X.R.wait.length bWa') := R1.out 6
      have hc7 : w2.cell? ⟨q3, 7, none⟩ = some (.slice bDu X.R.due.length bDu') := R1.out 7
      have hc8 : w2.cell? ⟨q3, 8, none⟩ = some (.string X.R.out) := R1.out 8
      have hc9 : w2.cell? ⟨q3, 9, none⟩ = some (.string X.R.inp) := R1.out 9
      have hc10 : w2.cell? ⟨q3, 10, none⟩ = some (.int .i64 X.R.how) := R1.out 10
      have hc11 : w2.cell? ⟨q3, 11, none⟩ = some (.int .i64 X.R.exit) := R1.out 11
      have hc12 : w2.cell? ⟨q3, 12, none⟩ = some (.slice bSn X.R.snaps.length bSn') := R1.out 12
      refine wpOp_step rfl (fun K' hK => ?_)
      rw [e27]
      go_simp
      exact hK _ _ ⟨_, bit_set hL hsz 29 (by omega), fun jx => if jx = 34 then .agg #[.slice bL X.L.length bL', .slice bD X.dead.length bD', .int .i64 X.last, .int .i64 X.R.proc, .int .i64 X.R.frame, .slice bRe X.R.ready.length bRe', .slice bWa X.R.wait.length bWa', .slice bDu X.R.due.length bDu', .string X.R.out, .string X.R.inp, .int .i64 X.R.how, .int .i64 X.R.exit, .slice bSn X.R.snaps.length bSn'] else s jx, by first | (simp [frTD8, e27]; done) | (simp [frTD8, e27]; rfl), by simpa using hsz, ⟨I.x, I.bq, I.b3, I.v0, I.v1, I.v2, I.v3, I.v4, I.v5, I.v6, I.v7, I.v8, I.v9, I.v10, I.v11, I.v12, I.v13, I.v14, I.v15, I.v16, I.v17, I.v18, I.v19, I.v20, I.v21, I.v22, I.v23, I.v24, I.v25, I.v26, I.v27, I.v28, fun _ => rfl, I.v30, I.v31, I.v32, I.v33, I.v34, I.v35, I.v36, I.v37, I.v38, I.v39, I.v40, I.v41, I.v42⟩⟩
    · -- operation 30
      simp [hL, Region.binds] at hdep
      have d28 : L 28 = true := by simp [hdep]
      have d29 : L 29 = true := by simp [hdep]
      have d27 : L 27 = true := by simp [hdep]
      have e28 := I.v28 d28
      have e29 := I.v29 d29
      have e27 := I.v27 d27
      refine wpOp_step rfl (fun K' hK => ?_)
      rw [e28, e29, e27]
      go_simp
      refine (CSm.out _ I.x).mono ?_
      rintro e w3 ⟨r, rfl, hr, x3⟩
      have J := I.ext x3
      exact hK _ _ ⟨_, bit_set hL hsz 30 (by omega), fun jx => if jx = 35 then .bool r else s jx, by first | (simp [frTD8, e28, e29, e27]; done) | (simp [frTD8, e28, e29, e27]; rfl), by simpa using hsz, ⟨J.x, J.bq, J.b3, J.v0, J.v1, J.v2, J.v3, J.v4, J.v5, J.v6, J.v7, J.v8, J.v9, J.v10, J.v11, J.v12, J.v13, J.v14, J.v15, J.v16, J.v17, J.v18, J.v19, J.v20, J.v21, J.v22, J.v23, J.v24, J.v25, J.v26, J.v27, J.v28, J.v29, (fun _ => ⟨r, rfl, hr⟩), J.v31, J.v32, J.v33, J.v34, J.v35, J.v36, J.v37, J.v38, J.v39, J.v40, J.v41, J.v42⟩⟩
    · -- operation 31
      simp [hL, Region.binds] at hdep
      have d27 : L 27 = true := by simp [hdep]
      have e27 := I.v27 d27
      have R1 := Lib.hid I.bq.cell
      have lq := I.bq.lt
      have hc0 : w2.cell? ⟨q, 0, none⟩ = some (.slice aL W.L.length aL') := R1.out 0
      have hc1 : w2.cell? ⟨q, 1, none⟩ = some (.slice aD W.dead.length aD') := R1.out 1
      have hc2 : w2.cell? ⟨q, 2, none⟩ = some (.int .i64 W.last) := R1.out 2
      have hc3 : w2.cell? ⟨q, 3, none⟩ = some (.int .i64 W.R.proc) := R1.out 3
      have hc4 : w2.cell? ⟨q, 4, none⟩ = some (.int .i64 W.R.frame) := R1.out 4
      have hc5 : w2.cell? ⟨q, 5, none⟩ = some (.slice aRe W.R.ready.length aRe') := R1.out 5
      have hc6 : w2.cell? ⟨q, 6, none⟩ = some (.slice aWa W.R.wait.length aWa') := R1.out 6
      have hc7 : w2.cell? ⟨q, 7, none⟩ = some (.slice aDu W.R.due.length aDu') := R1.out 7
      have hc8 : w2.cell? ⟨q, 8, none⟩ = some (.string W.R.out) := R1.out 8
      have hc9 : w2.cell? ⟨q, 9, none⟩ = some (.string W.R.inp) := R1.out 9
      have hc10 : w2.cell? ⟨q, 10, none⟩ = some (.int .i64 W.R.how) := R1.out 10
      have hc11 : w2.cell? ⟨q, 11, none⟩ = some (.int .i64 W.R.exit) := R1.out 11
      have hc12 : w2.cell? ⟨q, 12, none⟩ = some (.slice aSn W.R.snaps.length aSn') := R1.out 12
      refine wpOp_step rfl (fun K' hK => ?_)
      rw [e27]
      go_simp
      exact hK _ _ ⟨_, bit_set hL hsz 31 (by omega), fun jx => if jx = 36 then .agg #[.slice aL W.L.length aL', .slice aD W.dead.length aD', .int .i64 W.last, .int .i64 W.R.proc, .int .i64 W.R.frame, .slice aRe W.R.ready.length aRe', .slice aWa W.R.wait.length aWa', .slice aDu W.R.due.length aDu', .string W.R.out, .string W.R.inp, .int .i64 W.R.how, .int .i64 W.R.exit, .slice aSn W.R.snaps.length aSn'] else s jx, by first | (simp [frTD8, e27]; done) | (simp [frTD8, e27]; rfl), by simpa using hsz, ⟨I.x, I.bq, I.b3, I.v0, I.v1, I.v2, I.v3, I.v4, I.v5, I.v6, I.v7, I.v8, I.v9, I.v10, I.v11, I.v12, I.v13, I.v14, I.v15, I.v16, I.v17, I.v18, I.v19, I.v20, I.v21, I.v22, I.v23, I.v24, I.v25, I.v26, I.v27, I.v28, I.v29, I.v30, fun _ => rfl, I.v32, I.v33, I.v34, I.v35, I.v36, I.v37, I.v38, I.v39, I.v40, I.v41, I.v42⟩⟩
    · -- operation 32
      simp [hL, Region.binds] at hdep
      have d27 : L 27 = true := by simp [hdep]
      have e27 := I.v27 d27
      have R1 := Lib.hid I.b3.cell
      have lq := I.b3.lt
      have hc0 : w2.cell? ⟨q3, 0, none⟩ = some (.slice bL X.L.length bL') := R1.out 0
      have hc1 : w2.cell? ⟨q3, 1, none⟩ = some (.slice bD X.dead.length bD') := R1.out 1
      have hc2 : w2.cell? ⟨q3, 2, none⟩ = some (.int .i64 X.last) := R1.out 2
      have hc3 : w2.cell? ⟨q3, 3, none⟩ = some (.int .i64 X.R.proc) := R1.out 3
      have hc4 : w2.cell? ⟨q3, 4, none⟩ = some (.int .i64 X.R.frame) := R1.out 4
      have hc5 : w2.cell? ⟨q3, 5, none⟩ = some (.slice bRe X.R.ready.length bRe') := R1.out 5
      have hc6 : w2.cell? ⟨q3, 6, none⟩ = some (.slice bWa X.R.wait.length bWa') := R1.out 6
      have hc7 : w2.cell? ⟨q3, 7, none⟩ = some (.slice bDu X.R.due.length bDu') := R1.out 7
      have hc8 : w2.cell? ⟨q3, 8, none⟩ = some (.string X.R.out) := R1.out 8
      have hc9 : w2.cell? ⟨q3, 9, none⟩ = some (.string X.R.inp) := R1.out 9
      have hc10 : w2.cell? ⟨q3, 10, none⟩ = some (.int .i64 X.R.how) := R1.out 10
      have hc11 : w2.cell? ⟨q3, 11, none⟩ = some (.int .i64 X.R.exit) := R1.out 11
      have hc12 : w2.cell? ⟨q3, 12, none⟩ = some (.slice bSn X.R.snaps.length bSn') := R1.out 12
      refine wpOp_step rfl (fun K' hK => ?_)
      rw [e27]
      go_simp
      exact hK _ _ ⟨_, bit_set hL hsz 32 (by omega), fun jx => if jx = 37 then .agg #[.slice bL X.L.length bL', .slice bD X.dead.length bD', .int .i64 X.last, .int .i64 X.R.proc, .int .i64 X.R.frame, .slice bRe X.R.ready.length bRe', .slice bWa X.R.wait.length bWa', .slice bDu X.R.due.length bDu', .string X.R.out, .string X.R.inp, .int .i64 X.R.how, .int .i64 X.R.exit, .slice bSn X.R.snaps.length bSn'] else s jx, by first | (simp [frTD8, e27]; done) | (simp [frTD8, e27]; rfl), by simpa using hsz, ⟨I.x, I.bq, I.b3, I.v0, I.v1, I.v2, I.v3, I.v4, I.v5, I.v6, I.v7, I.v8, I.v9, I.v10, I.v11, I.v12, I.v13, I.v14, I.v15, I.v16, I.v17, I.v18, I.v19, I.v20, I.v21, I.v22, I.v23, I.v24, I.v25, I.v26, I.v27, I.v28, I.v29, I.v30, I.v31, fun _ => rfl, I.v33, I.v34, I.v35, I.v36, I.v37, I.v38, I.v39, I.v40, I.v41, I.v42⟩⟩
    · -- operation 33
      simp [hL, Region.binds] at hdep
      have d31 : L 31 = true := by simp [hdep]
      have d32 : L 32 = true := by simp [hdep]
      have d27 : L 27 = true := by simp [hdep]
      have e31 := I.v31 d31
      have e32 := I.v32 d32
      have e27 := I.v27 d27
      refine wpOp_step rfl (fun K' hK => ?_)
      rw [e31, e32, e27]
      go_simp
      refine (CSn.out _ I.x).mono ?_
      rintro e w3 ⟨r, rfl, hr, x3⟩
      have J := I.ext x3
      exact hK _ _ ⟨_, bit_set hL hsz 33 (by omega), fun jx => if jx = 38 then .bool r else s jx, by first | (simp [frTD8, e31, e32, e27]; done) | (simp [frTD8, e31, e32, e27]; rfl), by simpa using hsz, ⟨J.x, J.bq, J.b3, J.v0, J.v1, J.v2, J.v3, J.v4, J.v5, J.v6, J.v7, J.v8, J.v9, J.v10, J.v11, J.v12, J.v13, J.v14, J.v15, J.v16, J.v17, J.v18, J.v19, J.v20, J.v21, J.v22, J.v23, J.v24, J.v25, J.v26, J.v27, J.v28, J.v29, J.v30, J.v31, J.v32, (fun _ => ⟨r, rfl, hr⟩), J.v34, J.v35, J.v36, J.v37, J.v38, J.v39, J.v40, J.v41, J.v42⟩⟩
    · -- operation 34
      simp [hL, Region.binds] at hdep
      have d30 : L 30 = true := by simp [hdep]
      have d33 : L 33 = true := by simp [hdep]
      have d27 : L 27 = true := by simp [hdep]
      obtain ⟨r30, e30, h30⟩ := I.v30 d30
      obtain ⟨r33, e33, h33⟩ := I.v33 d33
      have e27 := I.v27 d27
      obtain rfl : r30 = r33 := h30.uniq h33
      refine wpOp_step rfl (fun K' hK => ?_)
      rw [e30, e33, e27]
      go_simp
      exact hK _ _ ⟨_, bit_set hL hsz 34 (by omega), fun jx => if jx = 39 then .bool true else s jx, by first | (simp [frTD8, e30, e33, e27]; done) | (simp [frTD8, e30, e33, e27]; rfl), by simpa using hsz, ⟨I.x, I.bq, I.b3, I.v0, I.v1, I.v2, I.v3, I.v4, I.v5, I.v6, I.v7, I.v8, I.v9, I.v10, I.v11, I.v12, I.v13, I.v14, I.v15, I.v16, I.v17, I.v18, I.v19, I.v20, I.v21, I.v22, I.v23, I.v24, I.v25, I.v26, I.v27, I.v28, I.v29, I.v30, I.v31, I.v32, I.v33, fun _ => rfl, I.v35, I.v36, I.v37, I.v38, I.v39, I.v40, I.v41, I.v42⟩⟩
    · -- operation 35
      simp [hL, Region.binds] at hdep
      have d27 : L 27 = true := by simp [hdep]
      have d34 : L 34 = true := by simp [hdep]
      have e27 := I.v27 d27
      have e34 := I.v34 d34
      refine wpOp_step rfl (fun K' hK => ?_)
      rw [e27, e34]
      go_simp
      exact hK _ _ ⟨_, bit_set hL hsz 35 (by omega), fun jx => if jx = 40 then .bool true else s jx, by first | (simp [frTD8, e27, e34]; done) | (simp [frTD8, e27, e34]; rfl), by simpa using hsz, ⟨I.x, I.bq, I.b3, I.v0, I.v1, I.v2, I.v3, I.v4, I.v5, I.v6, I.v7, I.v8, I.v9, I.v10, I.v11, I.v12, I.v13, I.v14, I.v15, I.v16, I.v17, I.v18, I.v19, I.v20, I.v21, I.v22, I.v23, I.v24, I.v25, I.v26, I.v27, I.v28, I.v29, I.v30, I.v31, I.v32, I.v33, I.v34, fun _ => rfl, I.v36, I.v37, I.v38, I.v39, I.v40, I.v41, I.v42⟩⟩
    · -- operation 36
      simp [hL, Region.binds] at hdep
      have d35 : L 35 = true := by simp [hdep]
      have e35 := I.v35 d35
      refine wpOp_step rfl (fun K' hK => ?_)
      rw [e35]
      go_simp
      exact hK _ _ ⟨_, bit_set hL hsz 36 (by omega), fun jx => if jx = 41 then .bool true else s jx, by first | (simp [frTD8, e35]; done) | (simp [frTD8, e35]; rfl), by simpa using hsz, ⟨I.x, I.bq, I.b3, I.v0, I.v1, I.v2, I.v3, I.v4, I.v5, I.v6, I.v7, I.v8, I.v9, I.v10, I.v11, I.v12, I.v13, I.v14, I.v15, I.v16, I.v17, I.v18, I.v19, I.v20, I.v21, I.v22, I.v23, I.v24, I.v25, I.v26, I.v27, I.v28, I.v29, I.v30, I.v31, I.v32, I.v33, I.v34, I.v35, fun _ => rfl, I.v37, I.v38, I.v39, I.v40, I.v41, I.v42⟩⟩
    · -- operation 37
      simp [hL, Region.binds] at hdep
      have d36 : L 36 = true := by simp [hdep]
      have e36 := I.v36 d36
      have R1 := Lib.hid I.bq.cell
      have lq := I.bq.lt
      have hc0 : w2.cell? ⟨q, 0, none⟩ = some (.slice aL W.L.length aL') := R1.out 0
      have hc1 : w2.cell? ⟨q, 1, none⟩ = some (.slice aD W.dead.length aD') := R1.out 1
      have hc2 : w2.cell? ⟨q, 2, none⟩ = some (.int .i64 W.last) := R1.out 2
      have hc3 : w2.cell? ⟨q, 3, none⟩ = some (.int .i64 W.R.proc) := R1.out 3
      have hc4 : w2.cell? ⟨q, 4, none⟩ = some (.int .i64 W.R.frame) := R1.out 4
      have hc5 : w2.cell? ⟨q, 5, none⟩ = some (.slice aRe W.R.ready.length aRe') := R1.out 5
      have hc6 : w2.cell? ⟨q, 6, none⟩ = some (.slice aWa W.R.wait.length aWa') := R1.out 6
      have hc7 : w2.cell? ⟨q, 7, none⟩ = some (.slice aDu W.R.due.length aDu') := R1.out 7
      have hc8 : w2.cell? ⟨q, 8, none⟩ = some (.string W.R.out) := R1.out 8
      have hc9 : w2.cell? ⟨q, 9, none⟩ = some (.string W.R.inp) := R1.out 9
      have hc10 : w2.cell? ⟨q, 10, none⟩ = some (.int .i64 W.R.how) := R1.out 10
      have hc11 : w2.cell? ⟨q, 11, none⟩ = some (.int .i64 W.R.exit) := R1.out 11
      have hc12 : w2.cell? ⟨q, 12, none⟩ = some (.slice aSn W.R.snaps.length aSn') := R1.out 12
      refine wpOp_step rfl (fun K' hK => ?_)
      rw [e36]
      go_simp
      exact hK _ _ ⟨_, bit_set hL hsz 37 (by omega), fun jx => if jx = 42 then .agg #[.slice aL W.L.length aL', .slice aD W.dead.length aD', .int .i64 W.last, .int .i64 W.R.proc, .int .i64 W.R.frame, .slice aRe W.R.ready.length aRe', .slice aWa W.R.wait.length aWa', .slice aDu W.R.due.length aDu', .string W.R.out, .string W.R.inp, .int .i64 W.R.how, .int .i64 W.R.exit, .slice aSn W.R.snaps.length aSn'] else s jx, by first | (simp [frTD8, e36]; done) | (simp [frTD8, e36]; rfl), by simpa using hsz, ⟨I.x, I.bq, I.b3, I.v0, I.v1, I.v2, I.v3, I.v4, I.v5, I.v6, I.v7, I.v8, I.v9, I.v10, I.v11, I.v12, I.v13, I.v14, I.v15, I.v16, I.v17, I.v18, I.v19, I.v20, I.v21, I.v22, I.v23, I.v24, I.v25, I.v26, I.v27, I.v28, I.v29, I.v30, I.v31, I.v32, I.v33, I.v34, I.v35, I.v36, fun _ => rfl, I.v38, I.v39, I.v40, I.v41, I.v42⟩⟩
    · -- operation 38
      simp [hL, Region.binds] at hdep
      have d36 : L 36 = true := by simp [hdep]
      have e36 := I.v36 d36
      have R1 := Lib.hid I.bq.cell
      have lq := I.bq.lt
      have hc0 : w2.cell? ⟨q, 0, none⟩ = some (.slice aL W.L.length aL') := R1.out 0
      have hc1 : w2.cell? ⟨q, 1, none⟩ = some (.slice aD W.dead.length aD') := R1.out 1
      have hc2 : w2.cell? ⟨q, 2, none⟩ = some (.int .i64 W.last) := R1.out 2
      have hc3 : w2.cell? ⟨q, 3, none⟩ = some (.int .i64 W.R.proc) := R1.out 3
      have hc4 : w2.cell? ⟨q, 4, none⟩ = some (.int .i64 W.R.frame) := R1.out 4
      have hc5 : w2.cell? ⟨q, 5, none⟩ = some (.slice aRe W.R.ready.length aRe') := R1.out 5
      have hc6 : w2.cell? ⟨q, 6, none⟩ = some (.slice aWa W.R.wait.length aWa') := R1.out 6
      have hc7 : w2.cell? ⟨q, 7, none⟩ = some (.slice aDu W.R.due.length aDu') := R1.out 7
      have hc8 : w2.cell? ⟨q, 8, none⟩ = some (.string W.R.out) := R1.out 8
      have hc9 : w2.cell? ⟨q, 9, none⟩ = some (.string W.R.inp) := R1.out 9
      have hc10 : w2.cell? ⟨q, 10, none⟩ = some (.int .i64 W.R.how) := R1.out 10
      have hc11 : w2.cell? ⟨q, 11, none⟩ = some (.int .i64 W.R.exit) := R1.out 11
      have hc12 : w2.cell? ⟨q, 12, none⟩ = some (.slice aSn W.R.snaps.length aSn') := R1.out 12
      refine wpOp_step rfl (fun K' hK => ?_)
      rw [e36]
      go_simp
      exact hK _ _ ⟨_, bit_set hL hsz 38 (by omega), fun jx => if jx = 43 then .agg #[.slice aL W.L.length aL', .slice aD W.dead.length aD', .int .i64 W.last, .int .i64 W.R.proc, .int .i64 W.R.frame, .slice aRe W.R.ready.length aRe', .slice aWa W.R.wait.length aWa', .slice aDu W.R.due.length aDu', .string W.R.out, .string W.R.inp, .int .i64 W.R.how, .int .i64 W.R.exit, .slice aSn W.R.snaps.length aSn'] else s jx, by first | (simp [frTD8, e36]; done) | (simp [frTD8, e36]; rfl), by simpa using hsz, ⟨I.x, I.bq, I.b3, I.v0, I.v1, I.v2, I.v3, I.v4, I.v5, I.v6, I.v7, I.v8, I.v9, I.v10, I.v11, I.v12, I.v13, I.v14, I.v15, I.v16, I.v17, I.v18, I.v19, I.v20, I.v21, I.v22, I.v23, I.v24, I.v25, I.v26, I.v27, I.v28, I.v29, I.v30, I.v31, I.v32, I.v33, I.v34, I.v35, I.v36, I.v37, fun _ => rfl, I.v39, I.v40, I.v41, I.v42⟩⟩
    · -- operation 39
      simp [hL, Region.binds] at hdep
      have d38 : L 38 = true := by simp [hdep]
      have d36 : L 36 = true := by simp [hdep]
      have e38 := I.v38 d38
      have e36 := I.v36 d36
      refine wpOp_step rfl (fun K' hK => ?_)
      rw [e38, e36]
      go_simp
      refine (CWo.out _ I.x).mono ?_
      rintro e w3 ⟨x, rfl, hx, x3⟩
      have J := I.ext x3
      exact hK _ _ ⟨_, bit_set hL hsz 39 (by omega), fun jx => if jx = 44 then .agg (cellsW W x) else s jx, by first | (simp [frTD8, e38, e36, cellsW]; done) | (simp [frTD8, e38, e36, cellsW]; rfl), by simpa using hsz, ⟨J.x, J.bq, J.b3, J.v0, J.v1, J.v2, J.v3, J.v4, J.v5, J.v6, J.v7, J.v8, J.v9, J.v10, J.v11, J.v12, J.v13, J.v14, J.v15, J.v16, J.v17, J.v18, J.v19, J.v20, J.v21, J.v22, J.v23, J.v24, J.v25, J.v26, J.v27, J.v28, J.v29, J.v30, J.v31, J.v32, J.v33, J.v34, J.v35, J.v36, J.v37, J.v38, (fun _ => ⟨x, rfl, hx⟩), J.v40, J.v41, J.v42⟩⟩
    · -- operation 40
      simp [hL, Region.binds] at hdep
      have d37 : L 37 = true := by simp [hdep]
      have d39 : L 39 = true := by simp [hdep]
      have d36 : L 36 = true := by simp [hdep]
      have e37 := I.v37 d37
      obtain ⟨x39, e39, h39⟩ := I.v39 d39
      have e36 := I.v36 d36
      refine wpOp_step rfl (fun K' hK => ?_)
      rw [e37, e39, e36]
      unfold cellsW
      go_simp
      refine (same_q (HA.out.ext I.x) h39).mono ?_
      rintro e w3 ⟨r, rfl, hr, x3⟩
      have J := I.ext x3
      exact hK _ _ ⟨_, bit_set hL hsz 40 (by omega), fun jx => if jx = 45 then .bool r else s jx, by first | (simp [frTD8, e37, e39, e36, cellsW]; done) | (simp [frTD8, e37, e39, e36, cellsW]; rfl), by simpa using hsz, ⟨J.x, J.bq, J.b3, J.v0, J.v1, J.v2, J.v3, J.v4, J.v5, J.v6, J.v7, J.v8, J.v9, J.v10, J.v11, J.v12, J.v13, J.v14, J.v15, J.v16, J.v17, J.v18, J.v19, J.v20, J.v21, J.v22, J.v23, J.v24, J.v25, J.v26, J.v27, J.v28, J.v29, J.v30, J.v31, J.v32, J.v33, J.v34, J.v35, J.v36, J.v37, J.v38, J.v39, (fun _ => ⟨r, rfl, hr⟩), J.v41, J.v42⟩⟩
    · -- operation 41
      simp [hL, Region.binds] at hdep
      have d36 : L 36 = true := by simp [hdep]
      have d40 : L 40 = true := by simp [hdep]
      have e36 := I.v36 d36
      obtain ⟨r40, e40, h40⟩ := I.v40 d40
      obtain rfl : r40 = true := h40.self hcW
      refine wpOp_step rfl (fun K' hK => ?_)
      rw [e36, e40]
      go_simp
      exact hK _ _ ⟨_, bit_set hL hsz 41 (by omega), fun jx => if jx = 46 then .bool true else s jx, by first | (simp [frTD8, e36, e40]; done) | (simp [frTD8, e36, e40]; rfl), by simpa using hsz, ⟨I.x, I.bq, I.b3, I.v0, I.v1, I.v2, I.v3, I.v4, I.v5, I.v6, I.v7, I.v8, I.v9, I.v10, I.v11, I.v12, I.v13, I.v14, I.v15, I.v16, I.v17, I.v18, I.v19, I.v20, I.v21, I.v22, I.v23, I.v24, I.v25, I.v26, I.v27, I.v28, I.v29, I.v30, I.v31, I.v32, I.v33, I.v34, I.v35, I.v36, I.v37, I.v38, I.v39, I.v40, fun _ => rfl, I.v42⟩⟩
    · -- operation 42
      simp [hL, Region.binds] at hdep
      have d41 : L 41 = true := by simp [hdep]
      have e41 := I.v41 d41
      refine wpOp_step rfl (fun K' hK => ?_)
      rw [e41]
      go_simp
      exact hK _ _ ⟨_, bit_set hL hsz 42 (by omega), fun jx => if jx = 4 then .bool true else s jx, by first | (simp [frTD8, e41]; done) | (simp [frTD8, e41]; rfl), by simpa using hsz, ⟨I.x, I.bq, I.b3, I.v0, I.v1, I.v2, I.v3, I.v4, I.v5, I.v6, I.v7, I.v8, I.v9, I.v10, I.v11, I.v12, I.v13, I.v14, I.v15, I.v16, I.v17, I.v18, I.v19, I.v20, I.v21, I.v22, I.v23, I.v24, I.v25, I.v26, I.v27, I.v28, I.v29, I.v30, I.v31, I.v32, I.v33, I.v34, I.v35, I.v36, I.v37, I.v38, I.v39, I.v40, I.v41, fun _ => rfl⟩⟩
  · rintro listed act w2 ⟨L, hL, s, rfl, hsz, I⟩ hr
    have ALL : ∀ i, i < 43 → L i = true := fun i hi => by rw [← hL i]; exact all_listed (by kernel_rfl) hsz hr i hi
    have er := I.v42 (ALL 42 (by omega))
    have XF := Lib.hid I.x
    clear I hL ALL hr hsz
    unfold frTD8
    rw [er]
    go_wp2_with fail
    go_ret
    exact ⟨ret_bool rfl, XF.out⟩
end
end Go.Proofs.Ytadhkmplhgcgkaa.World
namespace Go.Proofs.Ytadhkmplhgcgkaa.World
open Go.RowKit Go.ChangeShapes Go.WideShapes Go.Deep Go.Proofs.Ytadhkmplhgcgkaa.Plain
set_option linter.unusedVariables false
section
variable {H : Type} {enc : TypeId × Value → H} {w : World}
def Td (H : Type) (enc : TypeId × Value → H) (w : World) (t : TypeId) (cs : List Value) : Prop := ∃ fuel y, DataW.trod (H := H) enc Try.prog w 0 (fun _ => true) true fuel t cs = some y
theorem td_int {t : TypeId} {cs : List Value} (ht : Try.prog.underlying t = some (.int .i64)) (h : Td H enc w t cs) : ∃ n, cs = [.int .i64 n] ∧ in64 n := by
  obtain ⟨f, y, h⟩ := h
  obtain ⟨n, e, _, hw⟩ := DataW.trod_int ht h
  exact ⟨n, e, bounds_i64 hw⟩
theorem td_bool {t : TypeId} {cs : List Value} (ht : Try.prog.underlying t = some .bool) (h : Td H enc w t cs) : ∃ b, cs = [.bool b] := by
  obtain ⟨f, y, h⟩ := h
  obtain ⟨b, e, _⟩ := DataW.trod_bool ht h
  exact ⟨b, e⟩
theorem td_str {t : TypeId} {cs : List Value} (ht : Try.prog.underlying t = some .string) (h : Td H enc w t cs) : ∃ s, cs = [.string s] ∧ s.size ≤ maxLen := by
  obtain ⟨f, y, h⟩ := h
  obtain ⟨s, e, _, hl⟩ := DataW.trod_string ht h
  exact ⟨s, e, hl⟩
theorem td_struct {t : TypeId} {fs : Array Field} {cs : List Value} (ht : Try.prog.underlying t = some (.struct fs)) (h : Td H enc w t cs) :
    cs.length = Try.prog.cellsOf t ∧ ∀ (i : Nat) (f : Field), fs[i]? = some f → Td H enc w f.type ((cs.drop f.offset).take (Try.prog.cellsOf f.type)) := by
  obtain ⟨f, y, h⟩ := h
  obtain ⟨xs, n, _, _, hl, hx, hf⟩ := DataW.trod_struct ht h
  refine ⟨hl, fun i fd hi => ?_⟩
  have hlt : i < fs.size := (Array.getElem?_eq_some_iff.1 hi).1
  have q := hf i fd hi
  rw [List.getElem?_eq_getElem (by omega)] at q
  exact ⟨n, _, q⟩
/-- a slice's elements, each with its cells -/
theorem td_slice {t e : TypeId} {cs : List Value} (ht : Try.prog.underlying t = some (.slice e)) {C : Nat} (hC : Try.prog.cellsOf e = C) (hp : 0 < C) (h : Td H enc w t cs) :
    ∃ A n cap, cs = [.slice A n cap] ∧ n ≤ cap ∧ cap ≤ maxLen ∧ ∀ i, i < n → ∃ b off cs', A = some ⟨b, off, none⟩ ∧ b < w.heap.size ∧ (∀ j, j < C → w.cell? ⟨b, off + i * C + j, none⟩ = cs'[j]?) ∧ Td H enc w e cs' := by
  obtain ⟨f, y, h⟩ := h
  rcases open_slice ht h with ⟨hcs, _⟩ | ⟨x, l, c, m, n, D, Pl, hcs, hb, hl, hm, hmm, hx, hi⟩
  · exact ⟨none, 0, 0, hcs, Nat.le_refl _, by unfold maxLen; omega, fun i hi => absurd hi (Nat.not_lt_zero i)⟩
  · simp only [if_true] at hmm
    subst hmm
    refine ⟨some x, l, m, hcs, hl, hm, fun i hil => ?_⟩
    obtain ⟨cs', hc, ht'⟩ := hi i (by omega)
    rw [hC] at hc
    obtain ⟨_, hcl, hat⟩ := World.cells?_some hc
    obtain ⟨b, off, spot⟩ := x
    obtain ⟨cz, hz, _⟩ := hi 0 (by omega)
    rw [hC] at hz
    obtain ⟨_, hzl, hzt⟩ := World.cells?_some hz
    have h0 := hzt 0 (by omega)
    rw [List.getElem?_eq_getElem (by omega)] at h0
    have hspot : spot = none := by simpa [Addr.add] using World.cell?_spot h0
    subst hspot
    have ea : ∀ k, (⟨b, off, none⟩ : Addr).add k = ⟨b, off + k, none⟩ := fun k => by unfold Addr.add; split <;> simp_all
    refine ⟨b, off, cs', rfl, ?_, fun j hj => ?_, ⟨n, _, ht'⟩⟩
    · rw [Go.Deep.add_add, ea] at h0
      rcases Nat.lt_or_ge b w.heap.size with hlt | hge
      · exact hlt
      · simp [World.cell?, Array.getElem?_eq_none hge] at h0
    · have q := hat j hj
      rw [Go.Deep.add_add, ea, ← Nat.add_assoc] at q
      exact q
theorem choose_cells {α : Type} [Inhabited α] {n : Nat} {p : Nat → α → Prop} (h : ∀ i, i < n → ∃ x, p i x) : ∃ f : Nat → α, ∀ i, i < n → p i (f i) := choose_lt h
theorem td_ints {t : TypeId} {cs : List Value} (ht : Try.prog.underlying t = some (.slice 3)) (h : Td H enc w t cs) : ∃ v l, cs = [v] ∧ IntsAt w v l ∧ ∀ x ∈ l, in64 x := by
  obtain ⟨A, n, cap, rfl, h1, h2, h3⟩ := td_slice ht (C := 1) (by kernel_rfl) (by omega) h
  have key : ∀ i, i < n → ∃ z : Int, (∃ b off, A = some ⟨b, off, none⟩ ∧ b < w.heap.size ∧ w.cell? ⟨b, off + i, none⟩ = some (.int .i64 z)) ∧ in64 z := fun i hi => by
    obtain ⟨b, off, cs', ea, hb, hc, ht'⟩ := h3 i hi
    obtain ⟨z, rfl, hz⟩ := td_int Try.underlying3 ht'
    have := hc 0 (by omega)
    exact ⟨z, ⟨b, off, ea, hb, by simpa using this⟩, hz⟩
  obtain ⟨f, hf⟩ := choose_lt key
  refine ⟨_, (List.range n).map f, rfl, ?_, fun x hx => ?_⟩
  · refine ⟨A, cap, by simp, by simpa using h1, by unfold maxLen at h2; omega, fun i hi => ?_⟩
    have hi' : i < n := by simpa using hi
    obtain ⟨⟨b, off, ea, hb, hc⟩, _⟩ := hf i hi'
    refine ⟨b, off, ea, hb, fun j hj => ?_⟩
    obtain rfl : j = 0 := by omega
    rw [Nat.mul_one, Nat.add_zero, hc, List.getD_eq_getElem?_getD, List.getElem?_map, List.getElem?_range hi']; rfl
  · obtain ⟨i, hi, rfl⟩ := List.mem_map.1 hx
    exact (hf i (List.mem_range.1 hi)).2
theorem td_bools {t : TypeId} {cs : List Value} (ht : Try.prog.underlying t = some (.slice 4)) (h : Td H enc w t cs) : ∃ v l, cs = [v] ∧ BoolsAt w v l := by
  obtain ⟨A, n, cap, rfl, h1, h2, h3⟩ := td_slice ht (C := 1) (by kernel_rfl) (by omega) h
  have key : ∀ i, i < n → ∃ z : Bool, ∃ b off, A = some ⟨b, off, none⟩ ∧ b < w.heap.size ∧ w.cell? ⟨b, off + i, none⟩ = some (.bool z) := fun i hi => by
    obtain ⟨b, off, cs', ea, hb, hc, ht'⟩ := h3 i hi
    obtain ⟨z, rfl⟩ := td_bool Try.underlying4 ht'
    have := hc 0 (by omega)
    exact ⟨z, b, off, ea, hb, by simpa using this⟩
  obtain ⟨f, hf⟩ := choose_lt key
  refine ⟨_, (List.range n).map f, rfl, ?_⟩
  refine ⟨A, cap, by simp, by simpa using h1, by unfold maxLen at h2; omega, fun i hi => ?_⟩
  have hi' : i < n := by simpa using hi
  obtain ⟨b, off, ea, hb, hc⟩ := hf i hi'
  refine ⟨b, off, ea, hb, fun j hj => ?_⟩
  obtain rfl : j = 0 := by omega
  rw [Nat.mul_one, Nat.add_zero, hc, List.getD_eq_getElem?_getD, List.getElem?_map, List.getElem?_range hi']; rfl
theorem td_strs {t : TypeId} {cs : List Value} (ht : Try.prog.underlying t = some (.slice 9)) (h : Td H enc w t cs) : ∃ v l, cs = [v] ∧ StrsAt w v l ∧ ∀ x ∈ l, x.size ≤ maxLen := by
  obtain ⟨A, n, cap, rfl, h1, h2, h3⟩ := td_slice ht (C := 1) (by kernel_rfl) (by omega) h
  have key : ∀ i, i < n → ∃ z : ByteArray, (∃ b off, A = some ⟨b, off, none⟩ ∧ b < w.heap.size ∧ w.cell? ⟨b, off + i, none⟩ = some (.string z)) ∧ z.size ≤ maxLen := fun i hi => by
    obtain ⟨b, off, cs', ea, hb, hc, ht'⟩ := h3 i hi
    obtain ⟨z, rfl, hz⟩ := td_str Try.underlying9 ht'
    have := hc 0 (by omega)
    exact ⟨z, ⟨b, off, ea, hb, by simpa using this⟩, hz⟩
  obtain ⟨f, hf⟩ := choose_lt key
  refine ⟨_, (List.range n).map f, rfl, ?_, fun x hx => ?_⟩
  · refine ⟨A, cap, by simp, by simpa using h1, by unfold maxLen at h2; omega, fun i hi => ?_⟩
    have hi' : i < n := by simpa using hi
    obtain ⟨⟨b, off, ea, hb, hc⟩, _⟩ := hf i hi'
    refine ⟨b, off, ea, hb, fun j hj => ?_⟩
    obtain rfl : j = 0 := by omega
    unfold sAt
    rw [Nat.mul_one, Nat.add_zero, hc, List.getD_eq_getElem?_getD, List.getElem?_map, List.getElem?_range hi']; rfl
  · obtain ⟨i, hi, rfl⟩ := List.mem_map.1 hx
    exact (hf i (List.mem_range.1 hi)).2
theorem take1 {cs : List Value} {k n : Nat} {v : Value} (hn : n = 1) (h : (cs.drop k).take n = [v]) : cs[k]? = some v := by
  subst hn
  have : ((cs.drop k).take 1)[0]? = some v := by rw [h]; rfl
  rw [List.getElem?_take_of_lt (by omega), List.getElem?_drop] at this
  simpa using this
theorem td_val {cs : List Value} (h : Td H enc w 37 cs) : ∃ u : PV, cs[0]? = some (.bool u.obj) ∧ cs[1]? = some (.int .i64 u.n) ∧ in64 u.n := by
  obtain ⟨_, hf⟩ := td_struct Try.underlying37 h
  obtain ⟨b, e0⟩ := td_bool Try.underlying4 (hf 0 _ rfl)
  obtain ⟨n, e1, hn⟩ := td_int Try.underlying3 (hf 1 _ rfl)
  exact ⟨⟨b, n⟩, take1 (by kernel_rfl) e0, take1 (by kernel_rfl) e1, hn⟩
theorem td_wait {cs : List Value} (h : Td H enc w 75 cs) : ∃ u : Int × Int, cs[0]? = some (.int .i64 u.1) ∧ cs[1]? = some (.int .i64 u.2) ∧ in64 u.1 ∧ in64 u.2 := by
  obtain ⟨_, hf⟩ := td_struct Try.underlying75 h
  obtain ⟨m, e0, hm⟩ := td_int Try.underlying3 (hf 0 _ rfl)
  obtain ⟨n, e1, hn⟩ := td_int Try.underlying3 (hf 1 _ rfl)
  exact ⟨⟨m, n⟩, take1 (by kernel_rfl) e0, take1 (by kernel_rfl) e1, hm, hn⟩
instance : Inhabited PV := ⟨dV⟩
instance : Inhabited PT := ⟨dT⟩
instance : Inhabited Value := ⟨undef⟩
theorem td_vals {t : TypeId} {cs : List Value} (ht : Try.prog.underlying t = some (.slice 37)) (h : Td H enc w t cs) : ∃ v l, cs = [v] ∧ ValsAt w v l ∧ ∀ x ∈ l, in64 x.n := by
  obtain ⟨A, n, cap, rfl, h1, h2, h3⟩ := td_slice ht (C := 2) (by kernel_rfl) (by omega) h
  have key : ∀ i, i < n → ∃ z : PV, (∃ b off, A = some ⟨b, off, none⟩ ∧ b < w.heap.size ∧ w.cell? ⟨b, off + i * 2, none⟩ = some (.bool z.obj) ∧ w.cell? ⟨b, off + i * 2 + 1, none⟩ = some (.int .i64 z.n)) ∧ in64 z.n := fun i hi => by
    obtain ⟨b, off, cs', ea, hb, hc, ht'⟩ := h3 i hi
    obtain ⟨z, e0, e1, hz⟩ := td_val ht'
    exact ⟨z, ⟨b, off, ea, hb, (hc 0 (by omega)).trans e0, (hc 1 (by omega)).trans e1⟩, hz⟩
  obtain ⟨f, hf⟩ := choose_lt key
  refine ⟨_, (List.range n).map f, rfl, ?_, fun x hx => ?_⟩
  · refine ⟨A, cap, by simp, by simpa using h1, by unfold maxLen at h2; omega, fun i hi => ?_⟩
    have hi' : i < n := by simpa using hi
    obtain ⟨⟨b, off, ea, hb, hc0, hc1⟩, _⟩ := hf i hi'
    have ev : vAt ((List.range n).map f) i = f i := by unfold vAt; rw [List.getD_eq_getElem?_getD, List.getElem?_map, List.getElem?_range hi']; rfl
    refine ⟨b, off, ea, hb, fun j hj => ?_⟩
    rw [ev]
    rcases (show j = 0 ∨ j = 1 by omega) with rfl | rfl
    · exact hc0
    · exact hc1
  · obtain ⟨i, hi, rfl⟩ := List.mem_map.1 hx
    exact (hf i (List.mem_range.1 hi)).2
theorem td_waits {t : TypeId} {cs : List Value} (ht : Try.prog.underlying t = some (.slice 75)) (h : Td H enc w t cs) : ∃ v l, cs = [v] ∧ WaitsAt w v l ∧ ∀ x ∈ l, in64 x.1 ∧ in64 x.2 := by
  obtain ⟨A, n, cap, rfl, h1, h2, h3⟩ := td_slice ht (C := 2) (by kernel_rfl) (by omega) h
  have key : ∀ i, i < n → ∃ z : Int × Int, (∃ b off, A = some ⟨b, off, none⟩ ∧ b < w.heap.size ∧ w.cell? ⟨b, off + i * 2, none⟩ = some (.int .i64 z.1) ∧ w.cell? ⟨b, off + i * 2 + 1, none⟩ = some (.int .i64 z.2)) ∧ in64 z.1 ∧ in64 z.2 := fun i hi => by
    obtain ⟨b, off, cs', ea, hb, hc, ht'⟩ := h3 i hi
    obtain ⟨z, e0, e1, hz⟩ := td_wait ht'
    exact ⟨z, ⟨b, off, ea, hb, (hc 0 (by omega)).trans e0, (hc 1 (by omega)).trans e1⟩, hz⟩
  obtain ⟨f, hf⟩ := choose_lt key
  refine ⟨_, (List.range n).map f, rfl, ?_, fun x hx => ?_⟩
  · refine ⟨A, cap, by simp, by simpa using h1, by unfold maxLen at h2; omega, fun i hi => ?_⟩
    have hi' : i < n := by simpa using hi
    obtain ⟨⟨b, off, ea, hb, hc0, hc1⟩, _⟩ := hf i hi'
    have ev : wAt ((List.range n).map f) i = f i := by unfold wAt; rw [List.getD_eq_getElem?_getD, List.getElem?_map, List.getElem?_range hi']; rfl
    refine ⟨b, off, ea, hb, fun j hj => ?_⟩
    rw [ev]
    rcases (show j = 0 ∨ j = 1 by omega) with rfl | rfl
    · exact hc0
    · exact hc1
  · obtain ⟨i, hi, rfl⟩ := List.mem_map.1 hx
    exact (hf i (List.mem_range.1 hi)).2
theorem td_thing {cs : List Value} (h : Td H enc w 57 cs) : ∃ (t : PT) (vF : Value), (∀ j, j < 6 → cs[j]? = some (cT t vF j)) ∧ ValsAt w vF t.F ∧ (in64 t.cls ∧ in64 t.fmt ∧ in64 t.hash ∧ t.B.size ≤ maxLen ∧ ∀ v ∈ t.F, in64 v.n) := by
  obtain ⟨_, hf⟩ := td_struct Try.underlying57 h
  obtain ⟨c, e0, h0⟩ := td_int Try.underlying3 (hf 0 _ rfl)
  obtain ⟨f, e1, h1⟩ := td_int Try.underlying3 (hf 1 _ rfl)
  obtain ⟨hs, e2, h2⟩ := td_int Try.underlying3 (hf 2 _ rfl)
  obtain ⟨b, e3⟩ := td_bool Try.underlying4 (hf 3 _ rfl)
  obtain ⟨vF, F, e4, h4, h4'⟩ := td_vals Try.underlying39 (hf 4 _ rfl)
  obtain ⟨s, e5, h5⟩ := td_str Try.underlying9 (hf 5 _ rfl)
  refine ⟨⟨c, f, hs, b, F, s⟩, vF, fun j hj => ?_, h4, h0, h1, h2, h5, h4'⟩
  rcases (show j = 0 ∨ j = 1 ∨ j = 2 ∨ j = 3 ∨ j = 4 ∨ j = 5 by omega) with rfl | rfl | rfl | rfl | rfl | rfl
  · exact take1 (by kernel_rfl) e0
  · exact take1 (by kernel_rfl) e1
  · exact take1 (by kernel_rfl) e2
  · exact take1 (by kernel_rfl) e3
  · exact take1 (by kernel_rfl) e4
  · exact take1 (by kernel_rfl) e5
theorem td_things {t : TypeId} {cs : List Value} (ht : Try.prog.underlying t = some (.slice 57)) (h : Td H enc w t cs) : ∃ v L fs, cs = [v] ∧ ThingsAt w v L fs ∧ ∀ t ∈ L, in64 t.cls ∧ in64 t.fmt ∧ in64 t.hash ∧ t.B.size ≤ maxLen ∧ ∀ v ∈ t.F, in64 v.n := by
  obtain ⟨A, n, cap, rfl, h1, h2, h3⟩ := td_slice ht (C := 6) (by kernel_rfl) (by omega) h
  have key : ∀ i, i < n → ∃ z : PT × Value, (∃ b off, A = some ⟨b, off, none⟩ ∧ b < w.heap.size ∧ ∀ j, j < 6 → w.cell? ⟨b, off + i * 6 + j, none⟩ = some (cT z.1 z.2 j)) ∧ ValsAt w z.2 z.1.F ∧ (in64 z.1.cls ∧ in64 z.1.fmt ∧ in64 z.1.hash ∧ z.1.B.size ≤ maxLen ∧ ∀ v ∈ z.1.F, in64 v.n) := fun i hi => by
    obtain ⟨b, off, cs', ea, hb, hc, ht'⟩ := h3 i hi
    obtain ⟨z, vF, e0, hv, hz⟩ := td_thing ht'
    exact ⟨(z, vF), ⟨b, off, ea, hb, fun j hj => (hc j hj).trans (e0 j hj)⟩, hv, hz⟩
  obtain ⟨f, hf⟩ := choose_lt key
  have ev : ∀ i, i < n → tAt ((List.range n).map (fun i => (f i).1)) i = (f i).1 := fun i hi' => by unfold tAt; rw [List.getD_eq_getElem?_getD, List.getElem?_map, List.getElem?_range hi']; rfl
  refine ⟨_, (List.range n).map (fun i => (f i).1), fun i => (f i).2, rfl, ⟨?_, fun i hi => ?_⟩, fun x hx => ?_⟩
  · refine ⟨A, cap, by simp, by simpa using h1, by unfold maxLen at h2; omega, fun i hi => ?_⟩
    have hi' : i < n := by simpa using hi
    obtain ⟨⟨b, off, ea, hb, hc⟩, _⟩ := hf i hi'
    refine ⟨b, off, ea, hb, fun j hj => ?_⟩
    rw [ev i hi']
    exact hc j hj
  · have hi' : i < n := by simpa using hi
    rw [ev i hi']
    exact (hf i hi').2.1
  · obtain ⟨i, hi, rfl⟩ := List.mem_map.1 hx
    exact (hf i (List.mem_range.1 hi)).2.2
theorem take_at {cs : List Value} {k n j : Nat} {v : Value} (h : ((cs.drop k).take n)[j]? = some v) (hj : j < n) : cs[k + j]? = some v := by
  rw [List.getElem?_take_of_lt hj, List.getElem?_drop] at h
  exact h
set_option maxRecDepth 100000 in
/-- the argument -/
theorem open_world {r : Reach} {b0 : Nat} {v : Value} {d : DataW H} {p : List MemPlace} (hv : Value.okWide Try.prog w r b0 31 v) (h : DataW.Trod enc Try.prog w 0 (fun _ => true) true 31 v d p) :
    ∃ (x : WV) (W : PW), v = .agg (cellsW W x) ∧ WorldAt w x W := by
  obtain ⟨cs, rfl, hsz⟩ := okWide_struct Try.underlying31 hv
  obtain ⟨fuel, hf⟩ := h
  have hT : Td H enc w 31 cs.toList := ⟨fuel, _, by simpa [Value.cells] using hf⟩
  obtain ⟨hl, hF⟩ := td_struct Try.underlying31 hT
  obtain ⟨vL, L, fs, e0, hL, hN⟩ := td_things Try.underlying24 (hF 0 _ rfl)
  obtain ⟨vD, dead, e1, hD⟩ := td_bools Try.underlying25 (hF 1 _ rfl)
  obtain ⟨last, e2, hlast⟩ := td_int Try.underlying3 (hF 2 _ rfl)
  obtain ⟨hl2, hR⟩ := td_struct Try.underlying29 (hF 3 _ rfl)
  obtain ⟨proc, r0, n0⟩ := td_int Try.underlying3 (hR 0 _ rfl)
  obtain ⟨frame, r1, n1⟩ := td_int Try.underlying3 (hR 1 _ rfl)
  obtain ⟨vRe, ready, r2, hre, n2⟩ := td_ints Try.underlying22 (hR 2 _ rfl)
  obtain ⟨vWa, wait, r3, hwa, n3⟩ := td_waits Try.underlying26 (hR 3 _ rfl)
  obtain ⟨vDu, due, r4, hdu, n4⟩ := td_ints Try.underlying22 (hR 4 _ rfl)
  obtain ⟨out, r5, n5⟩ := td_str Try.underlying9 (hR 5 _ rfl)
  obtain ⟨inp, r6, n6⟩ := td_str Try.underlying9 (hR 6 _ rfl)
  obtain ⟨how, r7, n7⟩ := td_int Try.underlying3 (hR 7 _ rfl)
  obtain ⟨exit, r8, n8⟩ := td_int Try.underlying3 (hR 8 _ rfl)
  obtain ⟨vSn, snaps, r9, hsn, n9⟩ := td_strs Try.underlying27 (hR 9 _ rfl)
  refine ⟨⟨vL, fs, vD, vRe, vWa, vDu, vSn⟩, ⟨L, dead, last, ⟨proc, frame, ready, wait, due, out, inp, how, exit, snaps⟩⟩, ?_, ⟨hL, hD, hre, hwa, hdu, hsn, ⟨hlast, n0, n1, n7, n8, n5, n6, n2, n4, n3, n9, hN⟩⟩⟩
  have c0 := take1 (by kernel_rfl) e0
  have c1 := take1 (by kernel_rfl) e1
  have c2 := take1 (by kernel_rfl) e2
  have hc10 : Try.prog.cellsOf 29 = 10 := by kernel_rfl
  have hc13 : Try.prog.cellsOf 31 = 13 := by kernel_rfl
  have g : ∀ {j : Nat} {u : Value}, j < 10 → ∀ {n : Nat}, n = 1 → (((cs.toList.drop 3).take (Try.prog.cellsOf 29)).drop j).take n = [u] → cs.toList[3 + j]? = some u := fun {j u} hj {n} hn hq => take_at (take1 hn hq) (by rw [hc10]; exact hj)
  have d0 := g (j := 0) (by omega) (by kernel_rfl) r0
  have d1 := g (j := 1) (by omega) (by kernel_rfl) r1
  have d2 := g (j := 2) (by omega) (by kernel_rfl) r2
  have d3 := g (j := 3) (by omega) (by kernel_rfl) r3
  have d4 := g (j := 4) (by omega) (by kernel_rfl) r4
  have d5 := g (j := 5) (by omega) (by kernel_rfl) r5
  have d6 := g (j := 6) (by omega) (by kernel_rfl) r6
  have d7 := g (j := 7) (by omega) (by kernel_rfl) r7
  have d8 := g (j := 8) (by omega) (by kernel_rfl) r8
  have d9 := g (j := 9) (by omega) (by kernel_rfl) r9
  have hs : cs.size = 13 := hsz.trans hc13
  congr 1
  apply Array.ext_getElem?
  intro i
  rw [← Array.getElem?_toList]
  by_cases hi : i < 13
  · rcases (show i = 0 ∨ i = 1 ∨ i = 2 ∨ i = 3 ∨ i = 4 ∨ i = 5 ∨ i = 6 ∨ i = 7 ∨ i = 8 ∨ i = 9 ∨ i = 10 ∨ i = 11 ∨ i = 12 by omega) with rfl | rfl | rfl | rfl | rfl | rfl | rfl | rfl | rfl | rfl | rfl | rfl | rfl
    · exact c0
    · exact c1
    · exact c2
    · exact d0
    · exact d1
    · exact d2
    · exact d3
    · exact d4
    · exact d5
    · exact d6
    · exact d7
    · exact d8
    · exact d9
  · rw [List.getElem?_eq_none (by simpa [hs] using hi), Array.getElem?_eq_none (by simp [cellsW]; omega)]
end
end Go.Proofs.Ytadhkmplhgcgkaa.World
namespace Go.Proofs.Ytadhkmplhgcgkaa.World
open Go.RowKit Go.ChangeShapes Go.WideShapes Go.Proofs.Ytadhkmplhgcgkaa.Plain
set_option linter.unusedVariables false
attribute [local go_sem ↓] Go.wp_at_zero Go.wp_at_succ
section
variable {w : World} {x y : WV} {W X : PW}
theorem roots_no (h : WorldAt w x W) (hc : checkB W = false) : Calls Try.prog 25 #[.agg (cellsW W x)] w fun e w' => ∃ A c, e = .returned (.slice A 0 c) ∧ Ext w w' := by
  refine (Roots_ h (fun h' => absurd h' (by rw [hc]; decide))).mono ?_
  rintro e w' ⟨v, rfl, o, xx⟩
  rw [hc, if_neg (by decide)] at o
  obtain ⟨A, c, ev, _⟩ := Row.form o.ints
  replace ev : v = .slice A 0 c := ev
  subst ev
  exact ⟨A, c, rfl, xx⟩
theorem strong_no (h : WorldAt w x W) (hc : checkB W = false) : Calls Try.prog 12 #[.agg (cellsW W x)] w fun e w' => e = .returned (.slice none 0 0) ∧ Ext w w' := by
  refine (strong_ h).mono ?_
  rintro e w' ⟨v, rfl, P, xx⟩
  rw [P.no hc]
  exact ⟨rfl, xx⟩
theorem all_no (h : WorldAt w x W) (hc : checkB W = false) : Calls Try.prog 13 #[.agg (cellsW W x)] w fun e w' => e = .returned (.slice none 0 0) ∧ Ext w w' := by
  refine (all_ h).mono ?_
  rintro e w' ⟨v, rfl, P, xx⟩
  rw [P.no hc]
  exact ⟨rfl, xx⟩
theorem canon_no (h : WorldAt w x W) (hc : checkB W = false) : Calls Try.prog 14 #[.agg (cellsW W x)] w fun e w' => e = .returned (.agg zeroWc) ∧ Ext w w' := by
  refine (canon_ h).mono ?_
  rintro e w' ⟨cs, rfl, h0, _, xx⟩
  rw [h0 hc]
  exact ⟨rfl, xx⟩
theorem same_no (hA : WorldAt w x W) (hB : WorldAt w y X) (hc : checkB W = false) : Calls Try.prog 26 #[.agg (cellsW W x), .agg (cellsW X y)] w fun e w' => e = .returned (.bool false) ∧ Ext w w' := by
  refine (same_q hA hB).mono ?_
  rintro e w' ⟨r, rfl, hr, xx⟩
  rw [hr.1 hc]
  exact ⟨rfl, xx⟩
set_option maxRecDepth 100000 in
set_option maxHeartbeats 8000000 in
theorem reachAll (hA : WorldAt w x W) (hB : WorldAt w y X) : Calls Try.prog 5 #[.agg (cellsW W x), .agg (cellsW X y)] w fun e w' => e = .returned (.bool true) ∧ Ext w w' := by
  have CFA := Lib.hid (fun W2 (z : Ext w W2) => few (hA.ext z) 120)
  have CFB := Lib.hid (fun W2 (z : Ext w W2) => few (hB.ext z) 120)
  have CK := Lib.hid (fun W2 (z : Ext w W2) => check7 (hA.ext z))
  have CTo := Lib.hid (fun W2 (z : Ext w W2) (hc : checkB W = true) => told8 (hA.ext z) (hB.ext z) hc)
  have CRo := Lib.hid (fun W2 (z : Ext w W2) (hc : checkB W = false) => roots_no (hA.ext z) hc)
  have CSt := Lib.hid (fun W2 (z : Ext w W2) (hc : checkB W = false) => strong_no (hA.ext z) hc)
  have CAl := Lib.hid (fun W2 (z : Ext w W2) (hc : checkB W = false) => all_no (hA.ext z) hc)
  have CCa := Lib.hid (fun W2 (z : Ext w W2) (hc : checkB W = false) => canon_no (hA.ext z) hc)
  have CSa := Lib.hid (fun W2 (z : Ext w W2) (hc : checkB W = false) => same_no (hA.ext z) (hA.ext z) hc)
  obtain ⟨avL, afs, avD, avRe, avWa, avDu, avSn⟩ := x
  obtain ⟨bvL, bfs, bvD, bvRe, bvWa, bvDu, bvSn⟩ := y
  obtain ⟨aL, aL', eaL, _, _⟩ := hA.L.row.form
  replace eaL : avL = .slice aL W.L.length aL' := eaL
  subst eaL
  obtain ⟨aD, aD', eaD, _, _⟩ := Row.form hA.dead
  replace eaD : avD = .slice aD W.dead.length aD' := eaD
  subst eaD
  obtain ⟨aRe, aRe', eaRe, _, _⟩ := Row.form hA.ready
  replace eaRe : avRe = .slice aRe W.R.ready.length aRe' := eaRe
  subst eaRe
  obtain ⟨aWa, aWa', eaWa, _, _⟩ := Row.form hA.wait
  replace eaWa : avWa = .slice aWa W.R.wait.length aWa' := eaWa
  subst eaWa
  obtain ⟨aDu, aDu', eaDu, _, _⟩ := Row.form hA.due
  replace eaDu : avDu = .slice aDu W.R.due.length aDu' := eaDu
  subst eaDu
  obtain ⟨aSn, aSn', eaSn, _, _⟩ := Row.form hA.snaps
  replace eaSn : avSn = .slice aSn W.R.snaps.length aSn' := eaSn
  subst eaSn
  obtain ⟨bL, bL', ebL, _, _⟩ := hB.L.row.form
  replace ebL : bvL = .slice bL X.L.length bL' := ebL
  subst ebL
  obtain ⟨bD, bD', ebD, _, _⟩ := Row.form hB.dead
  replace ebD : bvD = .slice bD X.dead.length bD' := ebD
  subst ebD
  obtain ⟨bRe, bRe', ebRe, _, _⟩ := Row.form hB.ready
  replace ebRe : bvRe = .slice bRe X.R.ready.length bRe' := ebRe
  subst ebRe
  obtain ⟨bWa, bWa', ebWa, _, _⟩ := Row.form hB.wait
  replace ebWa : bvWa = .slice bWa X.R.wait.length bWa' := ebWa
  subst ebWa
  obtain ⟨bDu, bDu', ebDu, _, _⟩ := Row.form hB.due
  replace ebDu : bvDu = .slice bDu X.R.due.length bDu' := ebDu
  subst ebDu
  obtain ⟨bSn, bSn', ebSn, _, _⟩ := Row.form hB.snaps
  replace ebSn : bvSn = .slice bSn X.R.snaps.length bSn' := ebSn
  subst ebSn
  simp only [cellsW] at CFA CFB CK CTo CRo CSt CAl CCa CSa ⊢
  clear hA hB
  obtain ⟨p1, h1⟩ : ∃ p, (!fewB W 120) = p := ⟨_, rfl⟩
  obtain ⟨p2, h2⟩ : ∃ p, (!fewB X 120) = p := ⟨_, rfl⟩
  obtain ⟨c, hcw⟩ : ∃ c, checkB W = c := ⟨_, rfl⟩
  rw [hcw] at CK CTo CRo CSt CAl CCa CSa
  go_enter Try.func5, Try.ntmps5
  go_upto_region 1 with (fail)
  refine wp_name (fun w1 hw => ?_)
  have b0 : Blk w1 w.heap.size 31 #[.slice aL W.L.length aL', .slice aD W.dead.length aD', .int .i64 W.last, .int .i64 W.R.proc, .int .i64 W.R.frame, .slice aRe W.R.ready.length aRe', .slice aWa W.R.wait.length aWa', .slice aDu W.R.due.length aDu', .string W.R.out, .string W.R.inp, .int .i64 W.R.how, .int .i64 W.R.exit, .slice aSn W.R.snaps.length aSn'] := by rw [hw]; exact (Blk.new w _ _).alloc _
  have b3 : Blk w1 (w.heap.size + 1) 31 #[.slice bL X.L.length bL', .slice bD X.dead.length bD', .int .i64 X.last, .int .i64 X.R.proc, .int .i64 X.R.frame, .slice bRe X.R.ready.length bRe', .slice bWa X.R.wait.length bWa', .slice bDu X.R.due.length bDu', .string X.R.out, .string X.R.inp, .int .i64 X.R.how, .int .i64 X.R.exit, .slice bSn X.R.snaps.length bSn'] := by rw [hw]; exact Blk.after w _ _ _
  have x1 : Ext w w1 := by rw [hw]; exact ((Ext.refl w).alloc _).alloc _
  have X1 := Lib.hid x1
  have B1 := Lib.hid b0
  have B3 := Lib.hid b3
  clear hw x1 hcw
  obtain ⟨r1, r2, r3⟩ := b0.rules
  obtain ⟨s1, s2, s3⟩ := b3.rules
  clear b0 b3
  generalize w.heap.size + 1 = q3 at *
  generalize w.heap.size = q at *
  refine wp_region_fixed ?_
  repeat (go_big_quiet_step ((first | (go_at_call 17; with_reducible exact calls_ext (CFA.out _ (X1.out.ext _))) | (go_at_call 17; with_reducible exact calls_ext (CFB.out _ (X1.out.ext _))))))
  cases p1 with
  | true =>
    repeat (go_big_quiet_step ((first | (go_at_call 17; with_reducible exact calls_ext (CFA.out _ (X1.out.ext _))) | (go_at_call 17; with_reducible exact calls_ext (CFB.out _ (X1.out.ext _))))))
    refine wpQuiet_nil ?_
    rintro W3 ⟨xx, hx⟩
    have X3 := Lib.hid (X1.out.trans ⟨xx, hx⟩)
    clear hx r1 r2 r3 s1 s2 s3
    go_wp2_with ((go_at_call 16; refine (awake8 _).mono ?_; rintro e w9 ⟨rfl, x9⟩; have X9 := Lib.hid (X3.out.trans x9); clear x9))
    go_ret
    exact ⟨ret_bool rfl, X9.out⟩
  | false =>
    repeat (go_big_quiet_step ((first | (go_at_call 17; with_reducible exact calls_ext (CFA.out _ (X1.out.ext _))) | (go_at_call 17; with_reducible exact calls_ext (CFB.out _ (X1.out.ext _))))))
    cases p2 with
    | true =>
      repeat (go_big_quiet_step ((first | (go_at_call 17; with_reducible exact calls_ext (CFA.out _ (X1.out.ext _))) | (go_at_call 17; with_reducible exact calls_ext (CFB.out _ (X1.out.ext _))))))
      refine wpQuiet_nil ?_
      rintro W3 ⟨xx, hx⟩
      have X3 := Lib.hid (X1.out.trans ⟨xx, hx⟩)
      clear hx r1 r2 r3 s1 s2 s3
      go_wp2_with ((go_at_call 16; refine (awake8 _).mono ?_; rintro e w9 ⟨rfl, x9⟩; have X9 := Lib.hid (X3.out.trans x9); clear x9))
      go_ret
      exact ⟨ret_bool rfl, X9.out⟩
    | false =>
      repeat (go_big_quiet_step ((first | (go_at_call 17; with_reducible exact calls_ext (CFA.out _ (X1.out.ext _))) | (go_at_call 17; with_reducible exact calls_ext (CFB.out _ (X1.out.ext _))))))
      refine wpQuiet_nil ?_
      rintro w2 ⟨xx, hx⟩
      have X2 := Lib.hid (X1.out.trans ⟨xx, hx⟩)
      have B2 := Lib.hid (B1.out.ext ⟨xx, hx⟩)
      have B4 := Lib.hid (B3.out.ext ⟨xx, hx⟩)
      clear hx B1 B3 X1 r1 r2 r3 s1 s2 s3 h1 h2 CFA CFB
      obtain ⟨r1, r2, r3⟩ := B2.out.rules
      obtain ⟨s1, s2, s3⟩ := B4.out.rules
      cases c with
      | false =>
        replace CRo := Lib.hid (fun W2 (z : Ext w W2) => CRo.out W2 z rfl)
        replace CSt := Lib.hid (fun W2 (z : Ext w W2) => CSt.out W2 z rfl)
        replace CAl := Lib.hid (fun W2 (z : Ext w W2) => CAl.out W2 z rfl)
        replace CCa := Lib.hid (fun W2 (z : Ext w W2) => CCa.out W2 z rfl)
        replace CSa := Lib.hid (fun W2 (z : Ext w W2) => CSa.out W2 z rfl)
        unfold zeroWc at CCa
        clear CTo
        have hfd : ∀ W2, (Instr.field 31 (.agg #[.slice none 0 0, .slice none 0 0, .int .i64 0, .int .i64 0, .int .i64 0, .slice none 0 0, .slice none 0 0, .slice none 0 0, .string ByteArray.empty, .string ByteArray.empty, .int .i64 0, .int .i64 0, .slice none 0 0]) 0).run Try.prog W2 = .ok (.slice none 0 0) W2 := fun _ => by kernel_rfl
        go_wp2_with ((first | (go_at_call 15; refine (CK.out _ (X2.out.trans (is_ext _ _))).mono ?_; rintro e w6 ⟨rfl, x6⟩; obtain ⟨y6, rfl⟩ := x6; try rw [ext_ext]) | (go_at_call 25; refine (CRo.out _ (X2.out.trans (is_ext _ _))).mono ?_; rintro e w6 ⟨Aq, cq, rfl, x6⟩; obtain ⟨y6, rfl⟩ := x6; try rw [ext_ext]) | (go_at_call 12; refine (CSt.out _ (X2.out.trans (is_ext _ _))).mono ?_; rintro e w6 ⟨rfl, x6⟩; obtain ⟨y6, rfl⟩ := x6; try rw [ext_ext]) | (go_at_call 13; refine (CAl.out _ (X2.out.trans (is_ext _ _))).mono ?_; rintro e w6 ⟨rfl, x6⟩; obtain ⟨y6, rfl⟩ := x6; try rw [ext_ext]) | (go_at_call 14; refine (CCa.out _ (X2.out.trans (is_ext _ _))).mono ?_; rintro e w6 ⟨rfl, x6⟩; obtain ⟨y6, rfl⟩ := x6; try rw [ext_ext]) | (go_at_call 26; refine (CSa.out _ (X2.out.trans (is_ext _ _))).mono ?_; rintro e w6 ⟨rfl, x6⟩; obtain ⟨y6, rfl⟩ := x6; try rw [ext_ext]) | (go_at_call 16; refine (awake8 _).mono ?_; rintro e w6 ⟨rfl, x6⟩; obtain ⟨y6, rfl⟩ := x6; try rw [ext_ext])))
        go_ret
        exact ⟨ret_bool rfl, X2.out.trans (is_ext _ _)⟩
      | true =>
        replace CTo := Lib.hid (fun W2 (z : Ext w W2) => CTo.out W2 z rfl)
        clear CRo CSt CAl CCa CSa
        go_wp2_with ((first | (go_at_call 15; refine (CK.out _ (X2.out.trans (is_ext _ _))).mono ?_; rintro e w6 ⟨rfl, x6⟩; obtain ⟨y6, rfl⟩ := x6; try rw [ext_ext]) | (go_at_call 27; refine (CTo.out _ (X2.out.trans (is_ext _ _))).mono ?_; rintro e w6 ⟨rfl, x6⟩; obtain ⟨y6, rfl⟩ := x6; try rw [ext_ext]) | (go_at_call 16; refine (awake8 _).mono ?_; rintro e w6 ⟨rfl, x6⟩; obtain ⟨y6, rfl⟩ := x6; try rw [ext_ext])))
        go_ret
        exact ⟨ret_bool rfl, X2.out.trans (is_ext _ _)⟩
end
set_option maxRecDepth 100000 in
theorem reachAllArg {H : Type} {enc : TypeId × Value → H} {r : Reach} {b0 : Nat} {d0 d1 : DataW H} {p0 p1 : List MemPlace} (v0 v1 : Value) (w : World) (hv0 : Value.okWide Try.prog w r b0 31 v0) (h0 : DataW.Trod enc Try.prog w 0 (fun _ => true) true 31 v0 d0 p0) (hv1 : Value.okWide Try.prog w r b0 31 v1) (h1 : DataW.Trod enc Try.prog w 0 (fun _ => true) true 31 v1 d1 p1) :
    Calls Try.prog 5 #[v0, v1] w fun e w' => e = .returned (.bool true) ∧ Below w.heap.size w w' := by
  obtain ⟨x, W, rfl, hw⟩ := open_world hv0 h0
  obtain ⟨y, X, rfl, hx⟩ := open_world hv1 h1
  exact (reachAll hw hx).mono fun e w' ⟨he, hx⟩ => ⟨he, hx.below⟩
end Go.Proofs.Ytadhkmplhgcgkaa.World
