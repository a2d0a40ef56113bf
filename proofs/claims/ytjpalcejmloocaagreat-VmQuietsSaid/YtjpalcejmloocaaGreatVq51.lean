/-
  RefPut, as one text (a claim has at most 60 files).
-/
import Derived.Test.YtjpalcejmloocaaGreatVq44
import Derived.Test.YtjpalcejmloocaaGreatVq50
import Derived.Test.YtjpalcejmloocaaGreatVq43
import Derived.Test.YtjpalcejmloocaaGreatVq39
import Derived.Deep.DeepCutAuto
namespace Go.Proofs.YtjpalcejmloocaaGreat.World
open Go.RowKit Go.Proofs.YtjpalcejmloocaaGreat.Plain
set_option linter.unusedVariables false
attribute [local go_sem ↓] Go.wp_at_zero Go.wp_at_succ
theorem enc_eq {t : PT} {n : Nat} (h : shapeB n t = true) : encT t = b4 t.cls ++ (b4 (kindT t) ++ (b4 t.hash ++ (b4 ((t.F.length : Int) + (t.B.size : Int)) ++ (bytesI t.B ++ t.F.flatMap (fun u => b4 (valW u)))))) := by
  unfold shapeB at h
  unfold encT
  split at h
  · rename_i h3
    simp only [Bool.and_eq_true, decide_eq_true_eq] at h
    have e : t.F = [] := List.eq_nil_of_length_eq_zero h.1
    rw [if_pos h3, e]
    simp [List.append_assoc]
  · rename_i h3
    split at h
    · simp only [Bool.and_eq_true, decide_eq_true_eq] at h
      have hz : t.B.size = 0 := by omega
      have eb : bytesI t.B = [] := List.eq_nil_of_length_eq_zero (by rw [bytesI_len]; exact hz)
      rw [if_neg h3, hz, eb]
      simp [List.append_assoc]
    · cases h
theorem hadd_of {a b : ByteArray} {la lb : List Int} (ea : strI la = a) (eb : strI lb = b) (h : la.length + lb.length ≤ 9000000) : ∃ c, strI (la ++ lb) = c ∧ ∀ W : World, Sem.run Tryz.prog (Op.stringOp .add a b) W = .ok (.string c) W :=
  ⟨_, rfl, fun W => by rw [← ea, ← eb]; exact str_add (by omega) W⟩
theorem flds_shape {n : Nat} {t : PT} (h : shapeB n t = true) : ∀ j, j < t.F.length → fldB n (vAt t.F j) = true := by
  intro j hj
  unfold shapeB at h
  split at h
  · simp only [Bool.and_eq_true, decide_eq_true_eq] at h
    omega
  · split at h
    · simp only [Bool.and_eq_true, decide_eq_true_eq] at h
      have q : fldsB n t.F = true := by first | exact h.2.2 | exact h.2.1 | exact h.1
      unfold fldsB at q
      exact (allTo_iff _ _).1 q j hj
    · cases h
theorem ret_sn {a b : ByteArray} {c d : Int} (h1 : a = b) (h2 : c = d) : Ending.returned (.tuple #[.string a, .int .i64 c]) = .returned (.tuple #[.string b, .int .i64 d]) := by rw [h1, h2]
section
variable {w : World} {x : WV} {W : PW}
set_option maxRecDepth 100000 in
set_option maxHeartbeats 8000000 in
theorem rput (h : WorldAt w x W) (hbd : checkB W = true → (encW W).length ≤ 60000) : Calls Tryz.prog 31 #[.agg (cellsW W x)] w fun e w' => e = .returned (.tuple #[.string (strI (putS W).2), .int .i64 (putS W).1]) ∧ Ext w w' := by
  have CK := Lib.hid (fun W2 (z : Ext w W2) => check7 (h.ext z))
  have CD := Lib.hid (fun W2 (z : Ext w W2) => dead_ (h.ext z))
  have CF := Lib.hid (fun W2 (v : Int) (h : 0 ≤ v ∧ v < 4294967296) => show Calls Tryz.prog 48 #[.int .i64 v] W2 fun e w' => e = .returned (.string (strI (b4 v))) ∧ Ext W2 w' by
    have q := four_ v W2
    rw [Int.emod_eq_of_lt h.1 h.2] at q
    exact q)
  have HW := Lib.hid h
  have HBD := Lib.hid hbd
  obtain ⟨vL, fs, vD, vRe, vWa, vDu, vSn⟩ := x
  obtain ⟨AL, kL, eL, lL, _⟩ := h.L.row.form
  replace eL : vL = .slice AL W.L.length kL := eL
  subst eL
  obtain ⟨AD, kD, eD, lD, _⟩ := Row.form h.dead
  replace eD : vD = .slice AD W.dead.length kD := eD
  subst eD
  obtain ⟨ARe, kRe, eRe, lRe, _⟩ := Row.form h.ready
  replace eRe : vRe = .slice ARe W.R.ready.length kRe := eRe
  subst eRe
  obtain ⟨AWa, kWa, eWa, lWa, _⟩ := Row.form h.wait
  replace eWa : vWa = .slice AWa W.R.wait.length kWa := eWa
  subst eWa
  obtain ⟨ADu, kDu, eDu, lDu, _⟩ := Row.form h.due
  replace eDu : vDu = .slice ADu W.R.due.length kDu := eDu
  subst eDu
  obtain ⟨ASn, kSn, eSn, lSn, _⟩ := Row.form h.snaps
  replace eSn : vSn = .slice ASn W.R.snaps.length kSn := eSn
  subst eSn
  have HL := Lib.hid (fun i (hi : i < W.L.length) => h.L.cells rfl i hi)
  have HV := Lib.hid (fun i (hi : i < W.L.length) => h.L.flds i hi)
  have HRe : Hid (IntsAt w (.slice ARe W.R.ready.length kRe) W.R.ready) := Lib.hid h.ready
  have HDu : Hid (IntsAt w (.slice ADu W.R.due.length kDu) W.R.due) := Lib.hid h.due
  have HWa : Hid (WaitsAt w (.slice AWa W.R.wait.length kWa) W.R.wait) := Lib.hid h.wait
  simp only [cellsW] at CK CD ⊢
  simp only at HL HV
  have ES : Hid (putS W = if (!checkB W || W.dead.contains true) = true then (1, []) else if 65536 < (encW W).length then (2, []) else (0, encW W)) := Lib.hid rfl
  clear h hbd
  generalize putS W = S at *
  obtain ⟨p1, h1⟩ : ∃ p, (!checkB W) = p := ⟨_, rfl⟩
  obtain ⟨p2, h2⟩ : ∃ p, W.dead.contains true = p := ⟨_, rfl⟩
  have G1 := Lib.hid h1
  have G2 := Lib.hid h2
  rw [h2] at CD
  clear h2
  go_enter Tryz.func31, Tryz.ntmps31
  go_upto_region 1 with (fail)
  refine wp_name (fun w1 hw => ?_)
  have b0 : Blk w1 w.heap.size 31 #[.slice AL W.L.length kL, .slice AD W.dead.length kD, .int .i64 W.last, .int .i64 W.R.proc, .int .i64 W.R.frame, .slice ARe W.R.ready.length kRe, .slice AWa W.R.wait.length kWa, .slice ADu W.R.due.length kDu, .string W.R.out, .string W.R.inp, .int .i64 W.R.how, .int .i64 W.R.exit, .slice ASn W.R.snaps.length kSn] := Blk.new' hw
  have x1 : Ext w w1 := (Ext.refl w).alloc' hw
  have X1 := Lib.hid x1
  have B1 := Lib.hid b0
  clear hw x1
  generalize hqq : w.heap.size = q at *
  have QB := Lib.hid hqq
  clear hqq
  obtain ⟨r1, r2, r3⟩ := b0.rules
  clear b0
  refine wp_region_fixed ?_
  repeat (go_big_quiet_step ((first | (go_at_call 46; with_reducible exact calls_ext (CK.out _ (X1.out.ext _))) | (go_at_call 47; with_reducible exact calls_ext (CD.out _ (X1.out.ext _))))))
  cases p1 with
  | true =>
    have ES2 : Hid (S = (1, [])) := Lib.hid (by rw [ES.out, G1.out]; rfl)
    repeat (go_big_quiet_step ((first | (go_at_call 46; with_reducible exact calls_ext (CK.out _ (X1.out.ext _))) | (go_at_call 47; with_reducible exact calls_ext (CD.out _ (X1.out.ext _))))))
    refine wpQuiet_nil ?_
    rintro W3 ⟨xx, hx⟩
    have X3 := Lib.hid (X1.out.trans ⟨xx, hx⟩)
    clear hx r1 r2 r3
    go_wp2_with fail
    go_ret2
    exact ⟨ret_sn (by rw [ES2.out]; rfl) (by rw [ES2.out]), X3.out⟩
  | false =>
    repeat (go_big_quiet_step ((first | (go_at_call 46; with_reducible exact calls_ext (CK.out _ (X1.out.ext _))) | (go_at_call 47; with_reducible exact calls_ext (CD.out _ (X1.out.ext _))))))
    cases p2 with
    | true =>
      have ES2 : Hid (S = (1, [])) := Lib.hid (by rw [ES.out, G1.out, G2.out]; rfl)
      repeat (go_big_quiet_step ((first | (go_at_call 46; with_reducible exact calls_ext (CK.out _ (X1.out.ext _))) | (go_at_call 47; with_reducible exact calls_ext (CD.out _ (X1.out.ext _))))))
      refine wpQuiet_nil ?_
      rintro W3 ⟨xx, hx⟩
      have X3 := Lib.hid (X1.out.trans ⟨xx, hx⟩)
      clear hx r1 r2 r3
      go_wp2_with fail
      go_ret2
      exact ⟨ret_sn (by rw [ES2.out]; rfl) (by rw [ES2.out]), X3.out⟩
    | false =>
      repeat (go_big_quiet_step ((first | (go_at_call 46; with_reducible exact calls_ext (CK.out _ (X1.out.ext _))) | (go_at_call 47; with_reducible exact calls_ext (CD.out _ (X1.out.ext _))))))
      refine wpQuiet_nil ?_
      rintro w2 ⟨xx, hx⟩
      have hck : checkB W = true := by have := G1.out; simpa using this
      have hle := HBD.out hck
      have ES2 : Hid (S = (0, encW W)) := Lib.hid (by rw [ES.out, G1.out, G2.out, if_neg (by decide), if_neg (by omega)])
      have X2 := Lib.hid (X1.out.trans ⟨xx, hx⟩)
      have B2 := Lib.hid (B1.out.ext ⟨xx, hx⟩)
      clear hx r1 r2 r3 B1 X1 h1 G1 G2 ES CK CD HBD
      have EW : Hid (encW W = [67, 81, 49] ++ b4 W.L.length ++ W.L.flatMap encT ++ b4 W.R.proc ++ b4 W.R.frame ++ encL W.R.ready ++ b4 W.R.wait.length ++ W.R.wait.flatMap encWt ++ encL W.R.due ++ b4 W.last) := Lib.hid rfl
      have NL := check_len hck
      have RLn := regs_lens hck
      have OK := Lib.hid (canon_ok hck)
      have LI := last_in hck
      have PO := Lib.hid (fun i (hi : i < W.L.length) => put_ok hck HW.out.nums hi)
      have SH := Lib.hid (fun i (hi : i < W.L.length) => (check_thing hck hi).2)
      have FT := Lib.hid (flatT_take W.L)
      have FP := Lib.hid (flatP_take W.R.wait)
      have FV := Lib.hid (fun l k hk => flatV_take l k hk)
      have hpr : 0 ≤ W.R.proc ∧ W.R.proc < 4294967296 := by rcases OK.out.proc with e1 | e1 <;> omega
      have hfr : 0 ≤ W.R.frame ∧ W.R.frame < 4294967296 := by rcases OK.out.frame with e1 | e1 <;> omega
      have hre : ∀ j, j < W.R.ready.length → 0 ≤ W.R.ready.getD j 0 ∧ W.R.ready.getD j 0 < 4294967296 := fun j hj => by rcases OK.out.ready j hj with e1 | e1 <;> omega
      have hdu : ∀ j, j < W.R.due.length → 0 ≤ W.R.due.getD j 0 ∧ W.R.due.getD j 0 < 4294967296 := fun j hj => by rcases OK.out.due j hj with e1 | e1 <;> omega
      have hwa : ∀ j, j < W.R.wait.length → (0 ≤ (wAt W.R.wait j).1 ∧ (wAt W.R.wait j).1 < 4294967296) ∧ (0 ≤ (wAt W.R.wait j).2 ∧ (wAt W.R.wait j).2 < 4294967296) := fun j hj => by
        obtain ⟨k1, k2⟩ := OK.out.wait j hj
        refine ⟨?_, ?_⟩
        · rcases k1 with e1 | e1 <;> omega
        · rcases k2 with e1 | e1 <;> omega
      have HPR := Lib.hid hpr
      have HFR := Lib.hid hfr
      have HRE := Lib.hid hre
      have HDU := Lib.hid hdu
      have HWI := Lib.hid hwa
      have HLE := Lib.hid hle
      clear hck OK hpr hfr hre hdu hwa hle
      obtain ⟨r1, r2, r3⟩ := B2.out.rules
      have em : strI [67, 81, 49] = ⟨#[67, 81, 49]⟩ := by decide +kernel
      have hadd0 : ∀ W2 : World, Sem.run Tryz.prog (Op.stringOp .add ⟨#[67, 81, 49]⟩ (strI (b4 (W.L.length : Int)))) W2 = .ok (.string (strI ([67, 81, 49] ++ b4 (W.L.length : Int)))) W2 := fun W2 => by rw [← em]; exact str_add (by rw [b4_len]; decide) W2
      clear em
      go_upto_region 5 with (go_at_call 48; refine (CF.out _ _ (by omega)).mono ?_; rintro e w3 ⟨rfl, x3⟩; have X3 := Lib.hid (X2.out.trans x3); have B3 := Lib.hid (B2.out.ext x3); clear x3; clear r1 r2 r3; obtain ⟨r1, r2, r3⟩ := B3.out.rules)
      clear hadd0 r1 r2 r3 X2 B2
      go_loopw [4, 5] (fun sv iv wr => ∃ k : Nat, k ≤ W.L.length ∧ iv = .int .i64 k ∧ sv = .string (strI ([67, 81, 49] ++ b4 (W.L.length : Int) ++ (W.L.take k).flatMap encT)) ∧ Ext w3 wr) (fun _ iv _ => W.L.length - (intOf iv).toNat)
      case atStart => exact ⟨0, Nat.zero_le _, rfl, by rw [List.take_zero]; simp, Ext.refl _⟩
      case round =>
        obtain ⟨k, hk, rfl, rfl, x⟩ := hrel
        have BR := Lib.hid (B3.out.ext x)
        have XR := Lib.hid (X3.out.trans x)
        have Y1 := Lib.hid x
        clear x
        obtain ⟨r1, r2, r3⟩ := BR.out.rules
        have TL : Hid (((W.L.take k).flatMap encT).length ≤ 60000) := Lib.hid (by
          have e := HLE.out
          rw [EW.out] at e
          simp only [List.length_append] at e
          have e2 : (W.L.flatMap encT).length = ((W.L.take k).flatMap encT).length + ((W.L.drop k).flatMap encT).length := by rw [← List.length_append, ← List.flatMap_append, List.take_append_drop]
          omega)
        obtain ⟨sP, eP⟩ : ∃ s, strI ([67, 81, 49] ++ b4 (W.L.length : Int) ++ (W.L.take k).flatMap encT) = s := ⟨_, rfl⟩
        have hsz : (sP.size : Int) ≤ 65536 := by
          rw [← eP, strI_len, List.length_append, List.length_append, b4_len]
          have := TL.out
          show ((3 + 4 + _ : Nat) : Int) ≤ _
          omega
        have EP := Lib.hid eP
        rw [eP]
        clear eP
        by_cases hlt : k < W.L.length
        · have kI : (k : Int) < (W.L.length : Int) := by omega
          obtain ⟨b, off, rfl, hb, d0, d1, d2, d3, d4, d5⟩ := HL.out k hlt
          have hb' : b < w.heap.size := by rw [QB.out]; exact hb
          replace d0 := (XR.out.below.cell (p := ⟨b, off + k * 6, none⟩) hb').trans d0
          replace d1 := (XR.out.below.cell (p := ⟨b, off + k * 6 + 1, none⟩) hb').trans d1
          replace d2 := (XR.out.below.cell (p := ⟨b, off + k * 6 + 2, none⟩) hb').trans d2
          replace d3 := (XR.out.below.cell (p := ⟨b, off + k * 6 + 3, none⟩) hb').trans d3
          replace d4 := (XR.out.below.cell (p := ⟨b, off + k * 6 + 4, none⟩) hb').trans d4
          replace d5 := (XR.out.below.cell (p := ⟨b, off + k * 6 + 5, none⟩) hb').trans d5
          have VF := Lib.hid (HV.out k hlt)
          have FTk := Lib.hid (FT.out k hlt)
          have POk := Lib.hid (PO.out k hlt).1
          have SHk := Lib.hid (SH.out k hlt)
          have EEk := Lib.hid (enc_eq SHk.out)
          obtain ⟨AF, cF', ef, f1, f2⟩ := Row.form (HV.out k hlt)
          replace ef : fs k = .slice AF (tAt W.L k).F.length cF' := ef
          rw [ef] at d4 VF
          clear ef f1 f2
          generalize tAt W.L k = t at *
          have BD : Hid (∀ j, j < t.F.length → fldB W.L.length (vAt t.F j) = true) := Lib.hid (flds_shape SHk.out)
          obtain ⟨tc, tf, th, tfin, tF, tB⟩ := t
          simp only at d0 d1 d2 d3 d4 d5 VF EEk BD
          obtain ⟨⟨c0, c1⟩, ⟨g0, g1⟩, ⟨f0, f1⟩, bB, bF, _⟩ := POk.out
          simp only at c0 c1 g0 g1 f0 f1 bB bF
          obtain ⟨Pl, hPl⟩ : ∃ l, [67, 81, 49] ++ b4 (W.L.length : Int) ++ (W.L.take k).flatMap encT = l := ⟨_, rfl⟩
          rw [hPl] at EP
          have LP : Pl.length ≤ 60007 := by
            rw [← hPl, List.length_append, List.length_append, b4_len]
            have := TL.out
            show 3 + 4 + _ ≤ _
            omega
          have HPl := Lib.hid hPl
          have hkI : IntKind.i64.wrap (tf + 4) = tf + 4 := IntWalk.i64_in _ (by omega)
          clear hPl POk SHk TL hb hb'
          go_upto_region 8 with (fail)
          refine wp_name (fun w4 hw => ?_)
          have b4' : Blk w4 wr.heap.size 49 #[.int .i64 tc, .int .i64 tf, .int .i64 th, .bool tfin, .slice AF tF.length cF', .string tB] := Blk.new' hw
          have x4 := (Ext.refl wr).alloc' hw
          have X4 := Lib.hid (XR.out.trans x4)
          have Y4 := Lib.hid (Y1.out.trans x4)
          have BQ := Lib.hid (BR.out.ext x4)
          have BT := Lib.hid b4'
          generalize wr.heap.size = gt at *
          clear hw x4 b4' r1 r2 r3 d0 d1 d2 d3 d4 d5 BR XR
          obtain ⟨r1, r2, r3⟩ := BT.out.rules
          go_upto_if 43 with (fail)
          go_cut [7] from 43 to 45 (fun v wx => v = .int .i64 (tf + (if tfin = true then 4 else 0)) ∧ wx = w4)
          case first =>
            cases tfin with
            | true =>
              go_wp2_with fail
              go_meet
              exact ⟨rfl, rfl⟩
            | false =>
              go_wp2_with fail
              go_meet
              exact ⟨by rw [if_neg (by decide)]; simp, rfl⟩
          case rest =>
            obtain ⟨rfl, rfl⟩ := hcut
            obtain ⟨kd, hkd⟩ : ∃ n, tf + (if tfin = true then 4 else 0) = n := ⟨_, rfl⟩
            have kd0 : 0 ≤ kd ∧ kd < 4294967296 := by rw [← hkd]; split <;> omega
            have EK : Hid (kindT ⟨tc, tf, th, tfin, tF, tB⟩ = kd) := Lib.hid hkd
            rw [hkd]
            rw [EK.out] at EEk
            clear hkd EK
            obtain ⟨tl, htl⟩ : ∃ n : Int, (tF.length : Int) + (tB.size : Int) = n := ⟨_, rfl⟩
            have htw : IntKind.i64.wrap tl = tl := IntWalk.i64_in _ (by omega)
            have tl0 : 0 ≤ tl ∧ tl < 4294967296 := by omega
            rw [htl] at EEk
            have htI : IntKind.i64.wrap ((tF.length : Int) + (tB.size : Int)) = tl := by rw [htl]; exact htw
            obtain ⟨s1, e1⟩ : ∃ s, strI (b4 tc) = s := ⟨_, rfl⟩
            obtain ⟨s2, e2⟩ : ∃ s, strI (b4 kd) = s := ⟨_, rfl⟩
            obtain ⟨s3, e3⟩ : ∃ s, strI (b4 th) = s := ⟨_, rfl⟩
            obtain ⟨s4, e4⟩ : ∃ s, strI (b4 tl) = s := ⟨_, rfl⟩
            have e5 : strI (bytesI tB) = tB := strI_bytes tB
            have C1 := Lib.hid (fun W2 => CF.out W2 tc (by omega))
            have C2 := Lib.hid (fun W2 => CF.out W2 kd kd0)
            have C3 := Lib.hid (fun W2 => CF.out W2 th (by omega))
            have C4 := Lib.hid (fun W2 => CF.out W2 tl tl0)
            rw [e1] at C1
            rw [e2] at C2
            rw [e3] at C3
            rw [e4] at C4
            obtain ⟨t1, q1, hadd1⟩ := hadd_of EP.out e1 (by simp only [b4_len]; omega)
            obtain ⟨t2, q2, hadd2⟩ := hadd_of q1 e2 (by simp only [List.length_append, b4_len]; omega)
            obtain ⟨t3, q3, hadd3⟩ := hadd_of q2 e3 (by simp only [List.length_append, b4_len]; omega)
            obtain ⟨t4, q4, hadd4⟩ := hadd_of q3 e4 (by simp only [List.length_append, b4_len]; omega)
            obtain ⟨t5, q5, hadd5⟩ := hadd_of q4 e5 (by simp only [List.length_append, b4_len, bytesI_len]; omega)
            have Q5 := Lib.hid q5
            clear e1 e2 e3 e4 e5 q1 q2 q3 q4 q5
            go_upto_region 11 with (fail)
            refine wp_region_ext (by kernel_rfl) (by kernel_rfl) ?_
            repeat (go_big_quiet_step ((first | (go_at_call 48; with_reducible exact calls_ext (C1.out _)) | (go_at_call 48; with_reducible exact calls_ext (C2.out _)) | (go_at_call 48; with_reducible exact calls_ext (C3.out _)) | (go_at_call 48; with_reducible exact calls_ext (C4.out _)))))
            refine wpQuiet_nil ?_
            rintro w5 ⟨xx, hx⟩
            have X5 := Lib.hid (X4.out.trans ⟨xx, hx⟩)
            have Y5 := Lib.hid (Y4.out.trans ⟨xx, hx⟩)
            have BT5 := Lib.hid (BT.out.ext ⟨xx, hx⟩)
            have BQ5 := Lib.hid (BQ.out.ext ⟨xx, hx⟩)
            clear hx r1 r2 r3 hadd1 hadd2 hadd3 hadd4 hadd5 C1 C2 C3 C4 X4 BT BQ
            go_wp2_with fail
            have EQ : Hid (Pl ++ encT ⟨tc, tf, th, tfin, tF, tB⟩ = Pl ++ b4 tc ++ b4 kd ++ b4 th ++ b4 tl ++ bytesI tB ++ tF.flatMap (fun u => b4 (valW u))) := Lib.hid (by rw [EEk.out]; simp only [List.append_assoc])
            obtain ⟨Ql, hQl⟩ : ∃ l, Pl ++ b4 tc ++ b4 kd ++ b4 th ++ b4 tl ++ bytesI tB = l := ⟨_, rfl⟩
            rw [hQl] at Q5 EQ
            have LQ : Ql.length ≤ 200000 := by
              rw [← hQl]
              simp only [List.length_append, b4_len, bytesI_len]
              omega
            clear hQl EEk EP
            go_loopw [4, 8] (fun sv iv wr => ∃ j : Nat, j ≤ tF.length ∧ iv = .int .i64 j ∧ sv = .string (strI (Ql ++ (tF.take j).flatMap (fun u => b4 (valW u)))) ∧ Ext w5 wr) (fun _ iv _ => tF.length - (intOf iv).toNat)
            case atStart => exact ⟨0, Nat.zero_le _, rfl, by rw [List.take_zero, ← Q5.out]; simp, Ext.refl _⟩
            case round =>
              obtain ⟨j, hj, rfl, rfl, x⟩ := hrel
              have XR := Lib.hid (X5.out.trans x)
              have BTR := Lib.hid (BT5.out.ext x)
              have BQR := Lib.hid (BQ5.out.ext x)
              have Z := Lib.hid x
              clear x
              obtain ⟨r1, r2, r3⟩ := BTR.out.rules
              by_cases hjt : j < tF.length
              · have jI : (j : Int) < (tF.length : Int) := by omega
                obtain ⟨b, off, rfl, hb, hcv⟩ := Row.at_ (VF.out.ext XR.out) j hjt
                have d0 : wr.cell? ⟨b, off + j * 2, none⟩ = some (.bool (vAt tF j).obj) := hcv 0 (by omega)
                have d1 : wr.cell? ⟨b, off + j * 2 + 1, none⟩ = some (.int .i64 (vAt tF j).n) := hcv 1 (by omega)
                have FVj := Lib.hid (FV.out tF j hjt)
                have BDj := BD.out j hjt
                have LJ := Lib.hid (flatV_len (tF.take j))
                clear hcv hb
                generalize vAt tF j = u at *
                obtain ⟨uo, un⟩ := u
                simp only at d0 d1
                have CV := Lib.hid (fun W2 => val4_ (n := W.L.length) (o := uo) (n' := un) (by omega) BDj W2)
                obtain ⟨s1, e1⟩ : ∃ s, strI (b4 (valW ⟨uo, un⟩)) = s := ⟨_, rfl⟩
                rw [e1] at CV
                obtain ⟨s0, e0⟩ : ∃ s, strI (Ql ++ (tF.take j).flatMap (fun u => b4 (valW u))) = s := ⟨_, rfl⟩
                obtain ⟨t1, q1, hadd1⟩ := hadd_of e0 e1 (by rw [List.length_append, LJ.out, b4_len, List.length_take]; omega)
                have NX : Hid (strI (Ql ++ (tF.take (j + 1)).flatMap (fun u => b4 (valW u))) = t1) := Lib.hid (by rw [FVj.out, ← List.append_assoc]; exact q1)
                rw [e0]
                clear e0 e1 q1 BDj
                go_wp2_with (go_at_call 49; refine (CV.out _).mono ?_; rintro e w6 ⟨rfl, x6⟩; have X6 := Lib.hid x6; clear x6)
                go_roundw
                case rel => exact ⟨j + 1, by omega, by go_num, by rw [NX.out], Z.out.trans X6.out⟩
                case measure => simp [intOf] <;> omega
              · obtain rfl : j = tF.length := by omega
                have EN : Hid (strI (Ql ++ (tF.take tF.length).flatMap (fun u => b4 (valW u))) = strI ([67, 81, 49] ++ b4 (W.L.length : Int) ++ (W.L.take (k + 1)).flatMap encT)) := Lib.hid (by rw [List.take_length, ← EQ.out, FTk.out, ← List.append_assoc, HPl.out])
                rw [EN.out]
                go_wp2_with fail
                go_roundw
                case rel => exact ⟨k + 1, by omega, by go_num, rfl, Y5.out.trans Z.out⟩
                case measure => simp [intOf] <;> omega
        · obtain rfl : k = W.L.length := by omega
          clear TL HL HV FT SH PO hsz
          rw [List.take_length] at EP
          obtain ⟨Pl, hPl⟩ : ∃ l, [67, 81, 49] ++ b4 (W.L.length : Int) ++ W.L.flatMap encT = l := ⟨_, rfl⟩
          rw [hPl] at EP EW
          have LP : Pl.length ≤ 60000 := by
            have e := HLE.out
            rw [EW.out] at e
            simp only [List.length_append] at e
            omega
          clear hPl
          go_upto_region 16 with (fail)
          go_upto_region 17 with (fail)
          refine wp_name (fun w4 hw => ?_)
          have b4' : Blk w4 wr.heap.size 29 #[.int .i64 W.R.proc, .int .i64 W.R.frame, .slice ARe W.R.ready.length kRe, .slice AWa W.R.wait.length kWa, .slice ADu W.R.due.length kDu, .string W.R.out, .string W.R.inp, .int .i64 W.R.how, .int .i64 W.R.exit, .slice ASn W.R.snaps.length kSn] := Blk.new' hw
          have x4 := (Ext.refl wr).alloc' hw
          have X4 := Lib.hid (XR.out.trans x4)
          have BQ := Lib.hid (BR.out.ext x4)
          have BT := Lib.hid b4'
          generalize wr.heap.size = gt at *
          clear hw x4 b4' r1 r2 r3 BR XR
          obtain ⟨r1, r2, r3⟩ := BT.out.rules
          obtain ⟨s1, e1⟩ : ∃ s, strI (b4 W.R.proc) = s := ⟨_, rfl⟩
          obtain ⟨s2, e2⟩ : ∃ s, strI (b4 W.R.frame) = s := ⟨_, rfl⟩
          obtain ⟨s3, e3⟩ : ∃ s, strI (encL W.R.ready) = s := ⟨_, rfl⟩
          obtain ⟨s4, e4⟩ : ∃ s, strI (b4 (W.R.wait.length : Int)) = s := ⟨_, rfl⟩
          have C1 := Lib.hid (fun W2 => CF.out W2 W.R.proc HPR.out)
          have C2 := Lib.hid (fun W2 => CF.out W2 W.R.frame HFR.out)
          have C3 := Lib.hid (fun W2 (z : Ext w W2) => list_4 (HRe.out.ext z) (by omega) HRE.out)
          have C4 := Lib.hid (fun W2 => CF.out W2 (W.R.wait.length : Int) (by omega))
          rw [e1] at C1
          rw [e2] at C2
          rw [e3] at C3
          rw [e4] at C4
          have EL1 := Lib.hid (encL_size W.R.ready)
          have EL2 := Lib.hid (encL_size W.R.due)
          obtain ⟨t1, q1, hadd1⟩ := hadd_of EP.out e1 (by simp only [b4_len]; omega)
          obtain ⟨t2, q2, hadd2⟩ := hadd_of q1 e2 (by simp only [List.length_append, b4_len]; omega)
          obtain ⟨t3, q3, hadd3⟩ := hadd_of q2 e3 (by simp only [List.length_append, b4_len, EL1.out]; omega)
          obtain ⟨t4, q4, hadd4⟩ := hadd_of q3 e4 (by simp only [List.length_append, b4_len, EL1.out]; omega)
          have Q4 := Lib.hid q4
          clear e1 e2 e3 e4 q1 q2 q3 q4
          refine wp_region_ext (by kernel_rfl) (by kernel_rfl) ?_
          repeat (go_big_quiet_step ((first | (go_at_call 48; with_reducible exact calls_ext (C1.out _)) | (go_at_call 48; with_reducible exact calls_ext (C2.out _)) | (go_at_call 50; with_reducible exact calls_ext (C3.out _ (X4.out.ext _))) | (go_at_call 48; with_reducible exact calls_ext (C4.out _)))))
          refine wpQuiet_nil ?_
          rintro w5 ⟨xx, hx⟩
          have X5 := Lib.hid (X4.out.trans ⟨xx, hx⟩)
          have BT5 := Lib.hid (BT.out.ext ⟨xx, hx⟩)
          have BQ5 := Lib.hid (BQ.out.ext ⟨xx, hx⟩)
          clear hx r1 r2 r3 hadd1 hadd2 hadd3 hadd4 C1 C2 C3 C4 X4 BT BQ
          obtain ⟨Ql, hQl⟩ : ∃ l, Pl ++ b4 W.R.proc ++ b4 W.R.frame ++ encL W.R.ready ++ b4 (W.R.wait.length : Int) = l := ⟨_, rfl⟩
          rw [hQl] at Q4 EW
          have LQ : Ql.length ≤ 500000 := by
            rw [← hQl]
            simp only [List.length_append, b4_len, EL1.out]
            omega
          clear hQl EP
          go_wp2_with fail
          go_loopw [4, 10] (fun sv iv wr => ∃ j : Nat, j ≤ W.R.wait.length ∧ iv = .int .i64 j ∧ sv = .string (strI (Ql ++ (W.R.wait.take j).flatMap encWt)) ∧ Ext w5 wr) (fun _ iv _ => W.R.wait.length - (intOf iv).toNat)
          case atStart => exact ⟨0, Nat.zero_le _, rfl, by rw [List.take_zero, ← Q4.out]; simp, Ext.refl _⟩
          case round =>
            obtain ⟨j, hj, rfl, rfl, x⟩ := hrel
            have XR := Lib.hid (X5.out.trans x)
            have BTR := Lib.hid (BT5.out.ext x)
            have BQR := Lib.hid (BQ5.out.ext x)
            have Z := Lib.hid x
            clear x
            obtain ⟨r1, r2, r3⟩ := BTR.out.rules
            by_cases hjt : j < W.R.wait.length
            · have jI : (j : Int) < (W.R.wait.length : Int) := by omega
              obtain ⟨b, off, rfl, hb, hcv⟩ := Row.at_ (HWa.out.ext XR.out) j hjt
              have d0 : wr.cell? ⟨b, off + j * 2, none⟩ = some (.int .i64 (wAt W.R.wait j).1) := hcv 0 (by omega)
              have d1 : wr.cell? ⟨b, off + j * 2 + 1, none⟩ = some (.int .i64 (wAt W.R.wait j).2) := hcv 1 (by omega)
              have FPj := Lib.hid (FP.out j hjt)
              have HWj := HWI.out j hjt
              have LJ := Lib.hid (flatP_len (W.R.wait.take j))
              clear hcv
              generalize wAt W.R.wait j = u at *
              obtain ⟨us, up⟩ := u
              simp only at d0 d1 HWj
              obtain ⟨s1, e1⟩ : ∃ s, strI (b4 us) = s := ⟨_, rfl⟩
              obtain ⟨s2, e2⟩ : ∃ s, strI (b4 up) = s := ⟨_, rfl⟩
              have C1 := Lib.hid (fun W2 => CF.out W2 us HWj.1)
              have C2 := Lib.hid (fun W2 => CF.out W2 up HWj.2)
              rw [e1] at C1
              rw [e2] at C2
              obtain ⟨s0, e0⟩ : ∃ s, strI (Ql ++ (W.R.wait.take j).flatMap encWt) = s := ⟨_, rfl⟩
              obtain ⟨t1, q1, hadd1⟩ := hadd_of e0 e1 (by rw [List.length_append, LJ.out, b4_len, List.length_take]; omega)
              obtain ⟨t2, q2, hadd2⟩ := hadd_of q1 e2 (by rw [List.length_append, List.length_append, LJ.out, b4_len, b4_len, List.length_take]; omega)
              have NX : Hid (strI (Ql ++ (W.R.wait.take (j + 1)).flatMap encWt) = t2) := Lib.hid (by rw [FPj.out, ← List.append_assoc, ← List.append_assoc]; exact q2)
              rw [e0]
              clear e0 e1 e2 q1 q2 HWj FPj
              go_upto_region 21 with (fail)
              refine wp_region_ext (by kernel_rfl) (by kernel_rfl) ?_
              repeat (go_big_quiet_step ((first | (go_at_call 48; with_reducible exact calls_ext (C1.out _)) | (go_at_call 48; with_reducible exact calls_ext (C2.out _)))))
              refine wpQuiet_nil ?_
              rintro w6 ⟨xx, hx⟩
              have X6 := Lib.hid (Z.out.trans ⟨xx, hx⟩)
              clear hx r1 r2 r3 d0 d1 hadd1 hadd2
              go_wp2_with fail
              go_roundw
              case rel => exact ⟨j + 1, by omega, by go_num, by rw [NX.out], X6.out⟩
              case measure => simp [intOf] <;> omega
            · obtain rfl : j = W.R.wait.length := by omega
              rw [List.take_length]
              obtain ⟨s0, e0⟩ : ∃ s, strI (Ql ++ W.R.wait.flatMap encWt) = s := ⟨_, rfl⟩
              rw [e0]
              have LJ := Lib.hid (flatP_len W.R.wait)
              obtain ⟨s1, e1⟩ : ∃ s, strI (encL W.R.due) = s := ⟨_, rfl⟩
              obtain ⟨s2, e2⟩ : ∃ s, strI (b4 W.last) = s := ⟨_, rfl⟩
              have C1 := Lib.hid (fun W2 (z : Ext w W2) => list_4 (HDu.out.ext z) (by omega) HDU.out)
              have C2 := Lib.hid (fun W2 => CF.out W2 W.last (by omega))
              rw [e1] at C1
              rw [e2] at C2
              obtain ⟨t1, q1, hadd1⟩ := hadd_of e0 e1 (by rw [List.length_append, LJ.out, EL2.out]; omega)
              obtain ⟨t2, q2, hadd2⟩ := hadd_of q1 e2 (by rw [List.length_append, List.length_append, LJ.out, EL2.out, b4_len]; omega)
              rw [← EW.out] at q2
              have hsz : ¬ (65536 : Int) < (t2.size : Int) := by
                rw [← q2, strI_len]
                have := HLE.out
                omega
              have Q2 := Lib.hid q2
              obtain ⟨z1, z2, z3⟩ := BQR.out.rules
              clear e0 e1 e2 q1 q2 EW LJ
              go_upto_region 22 with (fail)
              refine wp_region_ext (by kernel_rfl) (by kernel_rfl) ?_
              repeat (go_big_quiet_step ((first | (go_at_call 50; with_reducible exact calls_ext (C1.out _ (XR.out.ext _))) | (go_at_call 48; with_reducible exact calls_ext (C2.out _)))))
              refine wpQuiet_nil ?_
              rintro w6 ⟨xx, hx⟩
              have X6 := Lib.hid (XR.out.trans ⟨xx, hx⟩)
              clear hx r1 r2 r3 z1 z2 z3 hadd1 hadd2
              go_wp2_with fail
              go_ret2
              exact ⟨ret_sn (by rw [ES2.out]; exact Q2.out.symm) (by rw [ES2.out]), X6.out⟩
end
end Go.Proofs.YtjpalcejmloocaaGreat.World
