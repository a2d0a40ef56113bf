/-
  RefLive, RefEqual, as one text (a claim has at most 60 files).
-/
import Derived.Test.YtadhkmplhgcgkaaMc04
import Derived.Test.YtadhkmplhgcgkaaMc34
namespace Go.Proofs.Ytadhkmplhgcgkaa.World
open Go.RowKit Go.Proofs.Ytadhkmplhgcgkaa.Plain
set_option linter.unusedVariables false
attribute [local go_sem ↓] Go.wp_at_zero Go.wp_at_succ
section
variable {w : World} {x : WV} {W : PW}
set_option maxRecDepth 100000 in
set_option maxHeartbeats 1000000 in
theorem rlive (h : WorldAt w x W) (at_ : Int) : Calls Try.prog 28 #[.agg (cellsW W x), .int .i64 at_] w fun e w' => e = .returned (.bool (liveB W at_)) ∧ Ext w w' := by
  obtain ⟨vL, fs, vD, vRe, vWa, vDu, vSn⟩ := x
  obtain ⟨AL, cL, e1, l1, l2⟩ := h.L.row.form
  obtain ⟨AD, cD, e2, l3, l4⟩ := Row.form h.dead
  have e1 : vL = .slice AL W.L.length cL := e1
  have e2 : vD = .slice AD W.dead.length cD := e2
  subst e1 e2
  have HD : BoolsAt w (.slice AD W.dead.length cD) W.dead := h.dead
  have E : Hid (liveB W at_ = (decide (0 ≤ at_ ∧ at_ < W.L.length) && !(W.dead.getD at_.toNat false))) := rfl
  unfold cellsW
  by_cases h1 : 0 ≤ at_
  · by_cases h2 : at_ < (W.L.length : Int)
    · obtain ⟨k, rfl⟩ := Int.eq_ofNat_of_zero_le h1
      rw [decide_eq_true ⟨h1, h2⟩, Int.toNat_natCast] at E
      by_cases h3 : W.dead.length ≤ k
      · have e3 : Hid (W.dead.getD k false = false) := Lib.hid (by rw [List.getD_eq_getElem?_getD, List.getElem?_eq_none h3]; rfl)
        have d3 : ((W.dead.length : Int) ≤ (k : Int)) := by omega
        clear h HD h3
        generalize W.L.length = n at *
        generalize W.dead.length = m at *
        go_enter Try.func28, Try.ntmps28
        go_wp2
        go_ret
        exact ⟨ret_bool (by rw [E.out, e3.out]; rfl), (Ext.refl _).alloc _⟩
      · obtain ⟨b, off, rfl, hb, hc⟩ := Row.at_ HD k (by omega)
        have c1 := hc 0 (by omega)
        have c1 : w.cell? ⟨b, off + k, none⟩ = some (.bool (W.dead.getD k false)) := by simpa using c1
        have h4 : (k : Int) < (W.dead.length : Int) := by omega
        clear h HD h3 hc
        generalize W.L.length = n at *
        generalize W.dead.length = m at *
        generalize W.dead.getD k false = q at *
        go_enter Try.func28, Try.ntmps28
        go_wp2
        go_ret
        exact ⟨ret_bool (by rw [E.out, decide_eq_false (by omega), Bool.false_or, Bool.true_and]), (Ext.refl _).alloc _⟩
    · have E2 : Hid (liveB W at_ = false) := Lib.hid (by rw [E.out, decide_eq_false (by omega), Bool.false_and])
      have d1 : decide (at_ < (W.L.length : Int)) = false := decide_eq_false h2
      clear h HD E
      generalize W.L.length = n at *
      go_enter Try.func28, Try.ntmps28
      go_wp2
      go_ret
      exact ⟨ret_bool (by rw [E2.out]), (Ext.refl _).alloc _⟩
  · have E2 : Hid (liveB W at_ = false) := Lib.hid (by rw [E.out, decide_eq_false (by omega), Bool.false_and])
    have d1 : decide (0 ≤ at_) = false := decide_eq_false h1
    clear h HD E
    go_enter Try.func28, Try.ntmps28
    go_wp2
    go_ret
    exact ⟨ret_bool (by rw [E2.out]), (Ext.refl _).alloc _⟩
set_option maxRecDepth 100000 in
set_option maxHeartbeats 1000000 in
theorem rnum (v : PV) (lo hi : Int) : Calls Try.prog 104 #[.agg #[.bool v.obj, .int .i64 v.n], .int .i64 lo, .int .i64 hi] w fun e w' => e = .returned (.bool (numB v lo hi)) ∧ Ext w w' := by
  obtain ⟨o, n⟩ := v
  show Calls _ _ _ _ fun e w' => e = .returned (.bool (!o && decide (lo ≤ n ∧ n ≤ hi))) ∧ Ext w w'
  by_cases h1 : lo ≤ n
  · by_cases h2 : n ≤ hi
    · rw [decide_eq_true ⟨h1, h2⟩]
      cases o <;>
      · go_enter Try.func104, Try.ntmps104
        go_wp2
        go_ret
        exact ⟨ret_bool (by simp), (Ext.refl _).alloc _⟩
    · rw [decide_eq_false (fun c => h2 c.2)]
      cases o <;>
      · go_enter Try.func104, Try.ntmps104
        go_wp2
        go_ret
        exact ⟨ret_bool (by simp <;> omega), (Ext.refl _).alloc _⟩
  · rw [decide_eq_false (fun c => h1 c.1)]
    cases o <;>
    · go_enter Try.func104, Try.ntmps104
      go_wp2
      go_ret
      exact ⟨ret_bool (by simp <;> omega), (Ext.refl _).alloc _⟩
end
end Go.Proofs.Ytadhkmplhgcgkaa.World
namespace Go.Proofs.Ytadhkmplhgcgkaa.World
open Go.RowKit Go.Proofs.Ytadhkmplhgcgkaa.Plain
set_option linter.unusedVariables false
attribute [local go_sem ↓] Go.wp_at_zero Go.wp_at_succ
def eqThB (A B : PW) (i : Nat) : Bool := eqT (tAt A.L i) (tAt B.L i) && (liveB A i == liveB B i)
def eqE (A B : PW) : Bool := decide (A.L.length = B.L.length) && (A.last == B.last && (eqR A.R B.R && allTo (eqThB A B) A.L.length))
section
variable {w : World}
set_option maxRecDepth 100000 in
set_option maxHeartbeats 8000000 in
theorem requal {x y : WV} {A B : PW} (hA : WorldAt w x A) (hB : WorldAt w y B) :
    Calls Try.prog 50 #[.agg (cellsW A x), .agg (cellsW B y)] w fun e w' => e = .returned (.bool (eqE A B)) ∧ Ext w w' := by
  have CS := Lib.hid (fun W2 (z : Ext w W2) => rsameRegs ((hA.ext z).ready) ((hA.ext z).wait) ((hA.ext z).due) ((hA.ext z).snaps) ((hB.ext z).ready) ((hB.ext z).wait) ((hB.ext z).due) ((hB.ext z).snaps))
  have LA := Lib.hid (fun W2 (z : Ext w W2) (i : Int) => rlive (hA.ext z) i)
  have LB := Lib.hid (fun W2 (z : Ext w W2) (i : Int) => rlive (hB.ext z) i)
  have FA := Lib.hid (fun (j : Nat) (hj : j < A.L.length) => hA.L.flds j hj)
  have FB := Lib.hid (fun (j : Nat) (hj : j < B.L.length) => hB.L.flds j hj)
  unfold cellsR at CS
  unfold cellsW at LA LB ⊢
  obtain ⟨vL, fs, vD, vRe, vWa, vDu, vSn⟩ := x
  obtain ⟨uL, gs, uD, uRe, uWa, uDu, uSn⟩ := y
  simp only at CS LA LB FA FB ⊢
  obtain ⟨AvL, cvL, evL, lvL, _⟩ := hA.L.row.form
  replace evL : vL = .slice AvL A.L.length cvL := evL
  subst evL
  obtain ⟨AvD, cvD, evD, lvD, _⟩ := Row.form hA.dead
  replace evD : vD = .slice AvD A.dead.length cvD := evD
  subst evD
  obtain ⟨AvRe, cvRe, evRe, lvRe, _⟩ := Row.form hA.ready
  replace evRe : vRe = .slice AvRe A.R.ready.length cvRe := evRe
  subst evRe
  obtain ⟨AvWa, cvWa, evWa, lvWa, _⟩ := Row.form hA.wait
  replace evWa : vWa = .slice AvWa A.R.wait.length cvWa := evWa
  subst evWa
  obtain ⟨AvDu, cvDu, evDu, lvDu, _⟩ := Row.form hA.due
  replace evDu : vDu = .slice AvDu A.R.due.length cvDu := evDu
  subst evDu
  obtain ⟨AvSn, cvSn, evSn, lvSn, _⟩ := Row.form hA.snaps
  replace evSn : vSn = .slice AvSn A.R.snaps.length cvSn := evSn
  subst evSn
  obtain ⟨AuL, cuL, euL, luL, _⟩ := hB.L.row.form
  replace euL : uL = .slice AuL B.L.length cuL := euL
  subst euL
  obtain ⟨AuD, cuD, euD, luD, _⟩ := Row.form hB.dead
  replace euD : uD = .slice AuD B.dead.length cuD := euD
  subst euD
  obtain ⟨AuRe, cuRe, euRe, luRe, _⟩ := Row.form hB.ready
  replace euRe : uRe = .slice AuRe B.R.ready.length cuRe := euRe
  subst euRe
  obtain ⟨AuWa, cuWa, euWa, luWa, _⟩ := Row.form hB.wait
  replace euWa : uWa = .slice AuWa B.R.wait.length cuWa := euWa
  subst euWa
  obtain ⟨AuDu, cuDu, euDu, luDu, _⟩ := Row.form hB.due
  replace euDu : uDu = .slice AuDu B.R.due.length cuDu := euDu
  subst euDu
  obtain ⟨AuSn, cuSn, euSn, luSn, _⟩ := Row.form hB.snaps
  replace euSn : uSn = .slice AuSn B.R.snaps.length cuSn := euSn
  subst euSn
  have HCA := Lib.hid (fun (j : Nat) (hj : j < A.L.length) => hA.L.cells rfl j hj)
  have HCB := Lib.hid (fun (j : Nat) (hj : j < B.L.length) => hB.L.cells rfl j hj)
  have E : Hid (eqE A B = (decide (A.L.length = B.L.length) && (A.last == B.last && (eqR A.R B.R && allTo (eqThB A B) A.L.length)))) := rfl
  have AF := Lib.hid (allTo_false (eqThB A B) A.L.length)
  have AS := Lib.hid (allTo_succ (eqThB A B))
  have ET : Hid (∀ i, eqThB A B i = (eqT (tAt A.L i) (tAt B.L i) && (liveB A i == liveB B i))) := Lib.hid (fun i => rfl)
  clear hA hB
  obtain ⟨p1, h1⟩ : ∃ p, ((A.L.length : Int) != (B.L.length : Int)) = p := ⟨_, rfl⟩
  obtain ⟨p2, h2⟩ : ∃ p, (A.last != B.last) = p := ⟨_, rfl⟩
  generalize eqE A B = res at *
  generalize eqR A.R B.R = q3 at *
  obtain ⟨p3, h3⟩ : ∃ p, (!q3) = p := ⟨_, rfl⟩
  have g1 : decide (A.L.length = B.L.length) = !p1 := by
    rw [← h1]
    by_cases e : A.L.length = B.L.length
    · rw [decide_eq_true e, e]; simp
    · rw [decide_eq_false e]; simp; omega
  have g2 : (A.last == B.last) = !p2 := by rw [← h2]; unfold bne; simp
  have g3 : q3 = !p3 := by rw [← h3]; simp
  rw [g1, g2, g3] at E
  have G1 := Lib.hid g1
  clear g1 g2 g3
  go_enter Try.func50, Try.ntmps50
  go_upto_region 1 with (fail)
  refine wp_name (fun W1 hW => ?_)
  have b2 := Blk.new' hW
  have b1 : Blk W1 w.heap.size _ _ := (Blk.new w _ _).alloc' hW
  have x1 := ((Ext.refl w).alloc _).alloc' hW
  simp only [World.size_alloc] at b2
  clear hW
  obtain ⟨r1, r2, r3⟩ := b1.rules
  obtain ⟨s1, s2, s3⟩ := b2.rules
  have B1 := Lib.hid b1
  have B2 := Lib.hid b2
  have X1 := Lib.hid x1
  clear b1 b2 x1
  refine wp_region_fixed ?_
  try simp only [List.append]
  repeat (go_big_quiet_step ((go_at_call 87; with_reducible exact calls_ext (CS.out _ (X1.out.ext _)))))
  cases p1 with
  | true =>
    rw [Bool.not_true, Bool.false_and] at E
    repeat (go_big_quiet_step ((go_at_call 87; with_reducible exact calls_ext (CS.out _ (X1.out.ext _)))))
    refine wpQuiet_nil ?_
    rintro W3 ⟨xx, rfl⟩
    go_wp2_with fail
    go_ret
    exact ⟨ret_bool E.out.symm, X1.out.trans (is_ext _ _)⟩
  | false =>
    rw [Bool.not_false, Bool.true_and] at E
    repeat (go_big_quiet_step ((go_at_call 87; with_reducible exact calls_ext (CS.out _ (X1.out.ext _)))))
    cases p2 with
    | true =>
      rw [Bool.not_true, Bool.false_and] at E
      repeat (go_big_quiet_step ((go_at_call 87; with_reducible exact calls_ext (CS.out _ (X1.out.ext _)))))
      refine wpQuiet_nil ?_
      rintro W3 ⟨xx, rfl⟩
      go_wp2_with fail
      go_ret
      exact ⟨ret_bool E.out.symm, X1.out.trans (is_ext _ _)⟩
    | false =>
      rw [Bool.not_false, Bool.true_and] at E
      repeat (go_big_quiet_step ((go_at_call 87; with_reducible exact calls_ext (CS.out _ (X1.out.ext _)))))
      cases p3 with
      | true =>
        rw [Bool.not_true, Bool.false_and] at E
        repeat (go_big_quiet_step ((go_at_call 87; with_reducible exact calls_ext (CS.out _ (X1.out.ext _)))))
        refine wpQuiet_nil ?_
        rintro W3 ⟨xx, rfl⟩
        go_wp2_with fail
        go_ret
        exact ⟨ret_bool E.out.symm, X1.out.trans (is_ext _ _)⟩
      | false =>
        rw [Bool.not_false, Bool.true_and] at E
        repeat (go_big_quiet_step ((go_at_call 87; with_reducible exact calls_ext (CS.out _ (X1.out.ext _)))))
        refine wpQuiet_nil ?_
        rintro W3 ⟨xx, hx⟩
        have hFG : A.L.length = B.L.length := by have := G1.out; simpa using this
        rw [← hFG] at FB HCB
        have X3 : Hid (Ext w W3) := Lib.hid (X1.out.trans ⟨xx, hx⟩)
        have C1 := Lib.hid (B1.out.ext ⟨xx, hx⟩)
        have C2 := Lib.hid (B2.out.ext ⟨xx, hx⟩)
        clear hx B1 B2 X1 r1 r2 r3 s1 s2 s3 CS
        obtain ⟨r1, r2, r3⟩ := C1.out.rules
        obtain ⟨s1, s2, s3⟩ := C2.out.rules
        generalize hm : A.L.length = m at *
        have HM := Lib.hid hFG
        clear hFG hm h1 h2 h3
        go_wp2_with fail
        go_loopw [5] (fun iv wr => ∃ i : Nat, i ≤ m ∧ iv = .int .i64 i ∧ allTo (eqThB A B) i = true ∧ Ext W3 wr) (fun iv _ => m - (intOf iv).toNat)
        case atStart => exact ⟨0, Nat.zero_le _, rfl, rfl, Ext.refl _⟩
        case round =>
          obtain ⟨i, hi, rfl, ha, xr⟩ := hrel
          have HA := Lib.hid ha
          have X := Lib.hid xr
          have XA := Lib.hid (X3.out.trans xr)
          have D1 := Lib.hid (C1.out.ext xr)
          have D2 := Lib.hid (C2.out.ext xr)
          clear r1 r2 r3 s1 s2 s3 ha xr
          obtain ⟨r1, r2, r3⟩ := D1.out.rules
          obtain ⟨s1, s2, s3⟩ := D2.out.rules
          by_cases hlt : i < m
          · obtain ⟨b, off, rfl, hb, d0, d1, d2, d3, d4, d5⟩ := HCA.out i hlt
            obtain ⟨b', off', rfl, hb', d0', d1', d2', d3', d4', d5'⟩ := HCB.out i hlt
            have ST := Lib.hid (fun W2 (z : Ext w W2) => rsameThing (Row.ext (FA.out i hlt) z) (Row.ext (FB.out i hlt) z))
            obtain ⟨AF1, cF1, ef, f1, f2⟩ := Row.form (FA.out i hlt)
            obtain ⟨AF2, cF2, eg, f3, f4⟩ := Row.form (FB.out i hlt)
            replace ef : fs i = .slice AF1 (tAt A.L i).F.length cF1 := ef
            replace eg : gs i = .slice AF2 (tAt B.L i).F.length cF2 := eg
            replace d4 : w.cell? ⟨b, off + i * 6 + 4, none⟩ = some (fs i) := d4
            replace d4' : w.cell? ⟨b', off' + i * 6 + 4, none⟩ = some (gs i) := d4'
            rw [ef] at d4
            rw [eg] at d4'
            simp only [ef, eg] at ST
            unfold aggT at ST
            replace d0 := (XA.out.below.cell (p := ⟨b, off + i * 6, none⟩) hb).trans d0
            replace d1 := (XA.out.below.cell (p := ⟨b, off + i * 6 + 1, none⟩) hb).trans d1
            replace d2 := (XA.out.below.cell (p := ⟨b, off + i * 6 + 2, none⟩) hb).trans d2
            replace d3 := (XA.out.below.cell (p := ⟨b, off + i * 6 + 3, none⟩) hb).trans d3
            replace d4 := (XA.out.below.cell (p := ⟨b, off + i * 6 + 4, none⟩) hb).trans d4
            replace d5 := (XA.out.below.cell (p := ⟨b, off + i * 6 + 5, none⟩) hb).trans d5
            replace d0' := (XA.out.below.cell (p := ⟨b', off' + i * 6, none⟩) hb').trans d0'
            replace d1' := (XA.out.below.cell (p := ⟨b', off' + i * 6 + 1, none⟩) hb').trans d1'
            replace d2' := (XA.out.below.cell (p := ⟨b', off' + i * 6 + 2, none⟩) hb').trans d2'
            replace d3' := (XA.out.below.cell (p := ⟨b', off' + i * 6 + 3, none⟩) hb').trans d3'
            replace d4' := (XA.out.below.cell (p := ⟨b', off' + i * 6 + 4, none⟩) hb').trans d4'
            replace d5' := (XA.out.below.cell (p := ⟨b', off' + i * 6 + 5, none⟩) hb').trans d5'
            have hbr := Nat.lt_of_lt_of_le hb XA.out.below.size
            have hbr' := Nat.lt_of_lt_of_le hb' XA.out.below.size
            have iN : (i : Int) < (m : Int) := by omega
            have iN' : (i : Int) < (B.L.length : Int) := by have := HM.out; omega
            have BAD : Hid (eqThB A B i = false → res = false) := Lib.hid (fun hf => by rw [E.out]; exact AF.out i hlt hf)
            have YES : Hid (eqThB A B i = true → allTo (eqThB A B) (i + 1) = true) := Lib.hid (fun hf => AS.out i HA.out hf)
            have EV := Lib.hid (ET.out i)
            have LA1 := Lib.hid (fun W2 (z : Ext w W2) => LA.out W2 z (i : Int))
            have LB1 := Lib.hid (fun W2 (z : Ext w W2) => LB.out W2 z (i : Int))
            generalize eqT (tAt A.L i) (tAt B.L i) = q1 at *
            generalize liveB A (i : Int) = la at *
            generalize liveB B (i : Int) = lb at *
            generalize eqThB A B i = ev at *
            generalize tAt A.L i = t at *
            generalize tAt B.L i = t' at *
            obtain ⟨p1, h1⟩ : ∃ p, (!q1) = p := ⟨_, rfl⟩
            obtain ⟨p2, h2⟩ : ∃ p, (!(la == lb)) = p := ⟨_, rfl⟩
            have g1 : q1 = !p1 := by rw [← h1]; simp
            have g2 : (la == lb) = !p2 := by rw [← h2]; simp
            rw [g1, g2] at EV
            clear g1 g2 ef eg hb hb'
            go_upto_region 6 with (fail)
            refine wp_region_ext (by kernel_rfl) (by kernel_rfl) ?_
            repeat (go_big_quiet_step ((first | (go_at_call 88; with_reducible exact calls_ext (ST.out _ (XA.out.ext _))) | (go_at_call 28; with_reducible exact calls_ext (LA1.out _ (XA.out.ext _))) | (go_at_call 28; with_reducible exact calls_ext (LB1.out _ (XA.out.ext _))))))
            cases p1 with
            | true =>
              have A1 := Lib.hid (BAD.out (by rw [EV.out]; rfl))
              clear BAD YES
              repeat (go_big_quiet_step ((first | (go_at_call 88; with_reducible exact calls_ext (ST.out _ (XA.out.ext _))) | (go_at_call 28; with_reducible exact calls_ext (LA1.out _ (XA.out.ext _))) | (go_at_call 28; with_reducible exact calls_ext (LB1.out _ (XA.out.ext _))))))
              refine wpQuiet_nil ?_
              rintro W4 ⟨x4, rfl⟩
              go_wp2_with fail
              go_ret
              exact ⟨ret_bool A1.out.symm, XA.out.trans (is_ext _ _)⟩
            | false =>
              repeat (go_big_quiet_step ((first | (go_at_call 88; with_reducible exact calls_ext (ST.out _ (XA.out.ext _))) | (go_at_call 28; with_reducible exact calls_ext (LA1.out _ (XA.out.ext _))) | (go_at_call 28; with_reducible exact calls_ext (LB1.out _ (XA.out.ext _))))))
              cases p2 with
              | true =>
                have A1 := Lib.hid (BAD.out (by rw [EV.out]; rfl))
                clear BAD YES
                repeat (go_big_quiet_step ((first | (go_at_call 88; with_reducible exact calls_ext (ST.out _ (XA.out.ext _))) | (go_at_call 28; with_reducible exact calls_ext (LA1.out _ (XA.out.ext _))) | (go_at_call 28; with_reducible exact calls_ext (LB1.out _ (XA.out.ext _))))))
                refine wpQuiet_nil ?_
                rintro W4 ⟨x4, rfl⟩
                go_wp2_with fail
                go_ret
                exact ⟨ret_bool A1.out.symm, XA.out.trans (is_ext _ _)⟩
              | false =>
                have A1 := Lib.hid (YES.out (by rw [EV.out]; rfl))
                clear BAD YES
                repeat (go_big_quiet_step ((first | (go_at_call 88; with_reducible exact calls_ext (ST.out _ (XA.out.ext _))) | (go_at_call 28; with_reducible exact calls_ext (LA1.out _ (XA.out.ext _))) | (go_at_call 28; with_reducible exact calls_ext (LB1.out _ (XA.out.ext _))))))
                refine wpQuiet_nil ?_
                rintro W4 ⟨x4, rfl⟩
                go_wp2_with fail
                go_roundw
                case rel => exact ⟨i + 1, by omega, by go_num, A1.out, X.out.trans (is_ext _ _)⟩
                case measure => simp [intOf]; omega
          · obtain rfl : i = m := by omega
            go_wp2_with fail
            go_ret
            exact ⟨ret_bool (by rw [E.out, HA.out]), XA.out⟩
set_option maxRecDepth 100000 in
set_option maxHeartbeats 2000000 in
theorem lequal {x y : WV} {A B : PW} (hA : WorldAt w x A) (hB : WorldAt w y B) :
    Calls Try.prog 22 #[.agg (cellsW A x), .agg (cellsW B y)] w fun e w' => e = .returned (.bool (eqE A B)) ∧ Ext w w' := by
  have CE := Lib.hid (fun W2 (z : Ext w W2) => requal (hA.ext z) (hB.ext z))
  unfold cellsW at CE ⊢
  obtain ⟨vL, fs, vD, vRe, vWa, vDu, vSn⟩ := x
  obtain ⟨uL, gs, uD, uRe, uWa, uDu, uSn⟩ := y
  simp only at CE ⊢
  obtain ⟨AvL, cvL, evL, lvL, _⟩ := hA.L.row.form
  replace evL : vL = .slice AvL A.L.length cvL := evL
  subst evL
  obtain ⟨AvD, cvD, evD, lvD, _⟩ := Row.form hA.dead
  replace evD : vD = .slice AvD A.dead.length cvD := evD
  subst evD
  obtain ⟨AvRe, cvRe, evRe, lvRe, _⟩ := Row.form hA.ready
  replace evRe : vRe = .slice AvRe A.R.ready.length cvRe := evRe
  subst evRe
  obtain ⟨AvWa, cvWa, evWa, lvWa, _⟩ := Row.form hA.wait
  replace evWa : vWa = .slice AvWa A.R.wait.length cvWa := evWa
  subst evWa
  obtain ⟨AvDu, cvDu, evDu, lvDu, _⟩ := Row.form hA.due
  replace evDu : vDu = .slice AvDu A.R.due.length cvDu := evDu
  subst evDu
  obtain ⟨AvSn, cvSn, evSn, lvSn, _⟩ := Row.form hA.snaps
  replace evSn : vSn = .slice AvSn A.R.snaps.length cvSn := evSn
  subst evSn
  obtain ⟨AuL, cuL, euL, luL, _⟩ := hB.L.row.form
  replace euL : uL = .slice AuL B.L.length cuL := euL
  subst euL
  obtain ⟨AuD, cuD, euD, luD, _⟩ := Row.form hB.dead
  replace euD : uD = .slice AuD B.dead.length cuD := euD
  subst euD
  obtain ⟨AuRe, cuRe, euRe, luRe, _⟩ := Row.form hB.ready
  replace euRe : uRe = .slice AuRe B.R.ready.length cuRe := euRe
  subst euRe
  obtain ⟨AuWa, cuWa, euWa, luWa, _⟩ := Row.form hB.wait
  replace euWa : uWa = .slice AuWa B.R.wait.length cuWa := euWa
  subst euWa
  obtain ⟨AuDu, cuDu, euDu, luDu, _⟩ := Row.form hB.due
  replace euDu : uDu = .slice AuDu B.R.due.length cuDu := euDu
  subst euDu
  obtain ⟨AuSn, cuSn, euSn, luSn, _⟩ := Row.form hB.snaps
  replace euSn : uSn = .slice AuSn B.R.snaps.length cuSn := euSn
  subst euSn
  clear hA hB
  generalize eqE A B = res at *
  go_enter Try.func22, Try.ntmps22
  go_upto_region 1 with (fail)
  refine wp_name (fun W1 hW => ?_)
  have b2 := Blk.new' hW
  have b1 : Blk W1 w.heap.size _ _ := (Blk.new w _ _).alloc' hW
  have x1 := ((Ext.refl w).alloc _).alloc' hW
  simp only [World.size_alloc] at b2
  clear hW
  obtain ⟨r1, r2, r3⟩ := b1.rules
  obtain ⟨s1, s2, s3⟩ := b2.rules
  have X1 := Lib.hid x1
  clear b1 b2 x1
  go_wp2_with ((go_at_call 50; refine (CE.out _ (X1.out.trans (is_ext _ _))).mono ?_; rintro e w2 ⟨rfl, x2⟩; have X2 := Lib.hid (X1.out.trans ((is_ext _ _).trans x2)); clear x2))
  go_ret
  exact ⟨ret_bool rfl, X2.out⟩
end
end Go.Proofs.Ytadhkmplhgcgkaa.World
