/-
  BackLaw, as one text (a claim has at most 60 files).
-/
import Derived.Test.YtadhkmplhgcgkaaMb52
import Derived.Test.YtadhkmplhgcgkaaMb46
import Derived.Deep.RegionHeld3
import Derived.Deep.DeepCutAuto
namespace Go.Proofs.Ytadhkmplhgcgkaa.World
open Go.RowKit Go.Proofs.Ytadhkmplhgcgkaa.Plain
set_option linter.unusedVariables false
attribute [local go_sem ↓] Go.wp_at_zero Go.wp_at_succ
theorem blkR10 {w : World} {g : Nat} {t : TypeId} {a0 a1 a2 a3 a4 a5 a6 a7 a8 a9 a10 a11 a12 x3 x4 x5 x6 x7 x8 x9 x10 x11 x12 : Value} (h : Blk w g t #[a0, a1, a2, a3, a4, a5, a6, a7, a8, a9, a10, a11, a12]) :
    Blk ((((((((((w.setCell ⟨g, 3, none⟩ x3).setCell ⟨g, 4, none⟩ x4).setCell ⟨g, 5, none⟩ x5).setCell ⟨g, 6, none⟩ x6).setCell ⟨g, 7, none⟩ x7).setCell ⟨g, 8, none⟩ x8).setCell ⟨g, 9, none⟩ x9).setCell ⟨g, 10, none⟩ x10).setCell ⟨g, 11, none⟩ x11).setCell ⟨g, 12, none⟩ x12) g t #[a0, a1, a2, x3, x4, x5, x6, x7, x8, x9, x10, x11, x12] :=
  by
  have q := ((((((((((h.set 3 x3).set 4 x4).set 5 x5).set 6 x6).set 7 x7).set 8 x8).set 9 x9).set 10 x10).set 11 x11).set 12 x12)
  simp only [List.setIfInBounds_toArray, List.set_cons_zero, List.set_cons_succ] at q
  exact q
theorem keepR10 (w : World) (p : Nat) (x3 x4 x5 x6 x7 x8 x9 x10 x11 x12 : Value) : Keep (· = p) w ((((((((((w.setCell ⟨p, 3, none⟩ x3).setCell ⟨p, 4, none⟩ x4).setCell ⟨p, 5, none⟩ x5).setCell ⟨p, 6, none⟩ x6).setCell ⟨p, 7, none⟩ x7).setCell ⟨p, 8, none⟩ x8).setCell ⟨p, 9, none⟩ x9).setCell ⟨p, 10, none⟩ x10).setCell ⟨p, 11, none⟩ x11).setCell ⟨p, 12, none⟩ x12) :=
  (((((((((((Keep.refl (· = p) w).setCell (p := ⟨p, 3, none⟩) rfl x3).setCell (p := ⟨p, 4, none⟩) rfl x4).setCell (p := ⟨p, 5, none⟩) rfl x5).setCell (p := ⟨p, 6, none⟩) rfl x6).setCell (p := ⟨p, 7, none⟩) rfl x7).setCell (p := ⟨p, 8, none⟩) rfl x8).setCell (p := ⟨p, 9, none⟩) rfl x9).setCell (p := ⟨p, 10, none⟩) rfl x10).setCell (p := ⟨p, 11, none⟩) rfl x11).setCell (p := ⟨p, 12, none⟩) rfl x12)
theorem extR10 {a w : World} {p : Nat} (h : Ext a w) (hp : a.heap.size ≤ p) (x3 x4 x5 x6 x7 x8 x9 x10 x11 x12 : Value) : Ext a ((((((((((w.setCell ⟨p, 3, none⟩ x3).setCell ⟨p, 4, none⟩ x4).setCell ⟨p, 5, none⟩ x5).setCell ⟨p, 6, none⟩ x6).setCell ⟨p, 7, none⟩ x7).setCell ⟨p, 8, none⟩ x8).setCell ⟨p, 9, none⟩ x9).setCell ⟨p, 10, none⟩ x10).setCell ⟨p, 11, none⟩ x11).setCell ⟨p, 12, none⟩ x12) :=
  ((((((((((h.setNew (p := ⟨p, 3, none⟩) hp x3).setNew (p := ⟨p, 4, none⟩) hp x4).setNew (p := ⟨p, 5, none⟩) hp x5).setNew (p := ⟨p, 6, none⟩) hp x6).setNew (p := ⟨p, 7, none⟩) hp x7).setNew (p := ⟨p, 8, none⟩) hp x8).setNew (p := ⟨p, 9, none⟩) hp x9).setNew (p := ⟨p, 10, none⟩) hp x10).setNew (p := ⟨p, 11, none⟩) hp x11).setNew (p := ⟨p, 12, none⟩) hp x12)
theorem nums_bar {W : PW} (h : Nums W) : Nums (barR W) :=
  { h with how := by unfold in64; exact ⟨by show (-9223372036854775808 : Int) ≤ 0; omega, by show (0 : Int) ≤ _; omega⟩
           exit := by unfold in64; exact ⟨by show (-9223372036854775808 : Int) ≤ 0; omega, by show (0 : Int) ≤ _; omega⟩
           out := Nat.zero_le _
           inp := Nat.zero_le _
           snaps := fun s hs => absurd hs (List.not_mem_nil) }
section
variable {w : World} {x : WV} {W : PW}
set_option maxRecDepth 100000 in
set_option maxHeartbeats 8000000 in
theorem imageBack (h : WorldAt w x W) {vb : Value} {b : List Int} (hb : Row w vb b.length 1 (cU b)) (kb : okB b) (nb : b.length ≤ maxLen) {k : Int} (hk : -9223372036854775808 ≤ k ∧ k ≤ 9223372036854775807) :
    Calls Try.prog 4 #[.agg (cellsW W x), vb, .int .i64 k] w fun e w' => e = .returned (.bool true) ∧ Ext w w' := by
  have CF := Lib.hid (fun W2 (z : Ext w W2) => few (h.ext z) 120)
  have CP := Lib.hid (fun W2 (z : Ext w W2) => putW (h.ext z))
  have CWo := Lib.hid (fun W2 (z : Ext w W2) (hc : checkB W = true) => lworld (h.ext z) hc)
  have HW := Lib.hid h
  obtain ⟨aB, aB', eB, lB, _⟩ := Row.form hb
  subst eB
  have HB := Lib.hid hb
  have HK := Lib.hid kb
  have HN := Lib.hid nb
  have HKK := Lib.hid hk
  clear hb kb nb hk
  obtain ⟨vL, fs, vD, vRe, vWa, vDu, vSn⟩ := x
  obtain ⟨aL, aL', eL, lL, _⟩ := h.L.row.form
  replace eL : vL = .slice aL W.L.length aL' := eL
  subst eL
  obtain ⟨aD, aD', eD, lD, _⟩ := Row.form h.dead
  replace eD : vD = .slice aD W.dead.length aD' := eD
  subst eD
  obtain ⟨aRe, aRe', eRe, lRe, _⟩ := Row.form h.ready
  replace eRe : vRe = .slice aRe W.R.ready.length aRe' := eRe
  subst eRe
  obtain ⟨aWa, aWa', eWa, lWa, _⟩ := Row.form h.wait
  replace eWa : vWa = .slice aWa W.R.wait.length aWa' := eWa
  subst eWa
  obtain ⟨aDu, aDu', eDu, lDu, _⟩ := Row.form h.due
  replace eDu : vDu = .slice aDu W.R.due.length aDu' := eDu
  subst eDu
  obtain ⟨aSn, aSn', eSn, lSn, _⟩ := Row.form h.snaps
  replace eSn : vSn = .slice aSn W.R.snaps.length aSn' := eSn
  subst eSn
  clear h
  simp only [cellsW] at CF CP CWo ⊢
  generalize hbl : b.length = bl at *
  have HBL := Lib.hid hbl
  clear hbl
  obtain ⟨p1, h1⟩ : ∃ p, (!fewB W 120) = p := ⟨_, rfl⟩
  obtain ⟨p2, h2⟩ : ∃ p, decide ((20000 : Int) < (bl : Int)) = p := ⟨_, rfl⟩
  have G1 := Lib.hid h1
  have G2 := Lib.hid h2
  go_enter Try.func4, Try.ntmps4
  go_upto_region 1 with (fail)
  refine wp_name (fun w1 hw => ?_)
  have b0 := Blk.new' hw
  have x0 := (Ext.refl w).alloc' hw
  clear hw
  obtain ⟨r1, r2, r3⟩ := b0.rules
  have B0 := Lib.hid b0
  have X0 := Lib.hid x0
  clear b0 x0
  generalize hqq : w.heap.size = q at *
  have QB := Lib.hid hqq
  clear hqq
  refine wp_region_fixed ?_
  repeat (go_big_quiet_step ((go_at_call 17; with_reducible exact calls_ext (CF.out _ (X0.out.ext _)))))
  cases p1 with
  | true =>
    repeat (go_big_quiet_step ((go_at_call 17; with_reducible exact calls_ext (CF.out _ (X0.out.ext _)))))
    refine wpQuiet_nil ?_
    rintro W3 ⟨xx, hx⟩
    have X3 := Lib.hid (X0.out.trans ⟨xx, hx⟩)
    clear hx r1 r2 r3
    go_wp2_with ((go_at_call 18; refine (awake7 _).mono ?_; rintro e w9 ⟨rfl, x9⟩; have X9 := Lib.hid (X3.out.trans x9); clear x9))
    go_ret
    exact ⟨ret_bool rfl, X9.out⟩
  | false =>
    repeat (go_big_quiet_step ((go_at_call 17; with_reducible exact calls_ext (CF.out _ (X0.out.ext _)))))
    cases p2 with
    | true =>
      repeat (go_big_quiet_step ((go_at_call 17; with_reducible exact calls_ext (CF.out _ (X0.out.ext _)))))
      refine wpQuiet_nil ?_
      rintro W3 ⟨xx, hx⟩
      have X3 := Lib.hid (X0.out.trans ⟨xx, hx⟩)
      clear hx r1 r2 r3
      go_wp2_with ((go_at_call 18; refine (awake7 _).mono ?_; rintro e w9 ⟨rfl, x9⟩; have X9 := Lib.hid (X3.out.trans x9); clear x9))
      go_ret
      exact ⟨ret_bool rfl, X9.out⟩
    | false =>
      repeat (go_big_quiet_step ((go_at_call 17; with_reducible exact calls_ext (CF.out _ (X0.out.ext _)))))
      refine wpQuiet_nil ?_
      rintro w2 ⟨xx, hx⟩
      have hf : fewB W 120 = true := by have := G1.out; simpa using this
      have hbl : bl ≤ 20000 := by have := of_decide_eq_false G2.out; omega
      have X2 := Lib.hid (X0.out.trans ⟨xx, hx⟩)
      have B2 := Lib.hid (B0.out.ext ⟨xx, hx⟩)
      clear hx B0 X0 r1 r2 r3 h1 h2 G1 G2 CF
      have HF := Lib.hid hf
      have HL := Lib.hid hbl
      clear hf hbl
      obtain ⟨r1, r2, r3⟩ := B2.out.rules
      go_upto_region 4 with (go_at_call 19; refine (CP.out _ X2.out).mono ?_; rintro e w3 ⟨A3, c3, n3, rfl, o3, l3, x3⟩; generalize he0 : (putS W).1 = e0; have E0 := Lib.hid he0; have O3 := Lib.hid o3; have L3 := Lib.hid l3; have X3 := Lib.hid (X2.out.trans x3); have B3 := Lib.hid (B2.out.ext x3); clear o3 l3 x3 he0; clear r1 r2 r3; obtain ⟨r1, r2, r3⟩ := B3.out.rules)
      clear X2 B2 CP
      obtain ⟨iU, hU, hU0, hU1, hU2⟩ := info_parts infoU
      go_upto_if 35 with (fail)
      go_cut [34] from 34 to 95 (fun v34 wx => Ext w wx)
      case first =>
        by_cases he : e0 = 0
        · have e1 : (e0 == 0) = true := by simp [he]
          have G0 := get_put (by rw [E0.out]; exact he)
          have hc := G0.2.2.1
          have HD := Lib.hid G0.2.2.2
          have n60 := put_few HW.out.nums HF.out (by rw [E0.out]; exact he)
          have n3l := G0.2.1
          rw [L3.out] at n60 n3l
          have GP := Lib.hid G0.1
          have OKP := Lib.hid (okB_put HW.out.nums)
          generalize (putS W).2 = pb at *
          clear G0 he
          have n3I : ¬ (n3 : Int) < 3 := by omega
          go_upto_region 6 with (go_at_call 20; refine (CWo.out _ X3.out hc).mono ?_; rintro e w4 ⟨⟨xc, rfl, nc⟩, x4⟩; obtain ⟨m0L, yfs, m0D, m0Re, m0Wa, m0Du, m0Sn⟩ := xc; obtain ⟨yL, yL', fL⟩ := Own.form nc.L; obtain ⟨yD, yD', fD⟩ := Own.form nc.dead; obtain ⟨yRe, yRe', fRe⟩ := Own.form nc.R.re; obtain ⟨yWa, yWa', fWa⟩ := Own.form nc.R.wa; obtain ⟨yDu, yDu', fDu⟩ := Own.form nc.R.du; obtain ⟨ySn, ySn', fSn⟩ := Own.form nc.R.sn; simp only at fL fD fRe fWa fDu fSn; subst fL fD fRe fWa fDu fSn; simp only; have NC := Lib.hid nc; have X4 := Lib.hid (X3.out.trans x4); have B4 := Lib.hid (B3.out.ext x4); have SZ4 := Lib.hid X3.out.below.size; have O4 := Lib.hid (O3.out.ext x4); clear nc x4; clear r1 r2 r3; obtain ⟨r1, r2, r3⟩ := B4.out.rules)
          refine wp_name (fun w5 hw => ?_)
          have b9 : Blk w5 w4.heap.size 31 #[.slice yL W.L.length yL', .slice yD W.dead.length yD', .int .i64 W.last, .int .i64 W.R.proc, .int .i64 W.R.frame, .slice yRe W.R.ready.length yRe', .slice yWa W.R.wait.length yWa', .slice yDu W.R.due.length yDu', .string W.R.out, .string W.R.inp, .int .i64 W.R.how, .int .i64 W.R.exit, .slice ySn W.R.snaps.length ySn'] := Blk.new' hw
          have x5 := (Ext.refl w4).alloc' hw
          have NC5 := Lib.hid (NC.out.ext x5)
          have B5 := Lib.hid (B4.out.ext x5)
          have B9 := Lib.hid b9
          have X5 := Lib.hid (X4.out.trans x5)
          have O5 := Lib.hid (O4.out.ext x5)
          have hq9 : w.heap.size ≤ w4.heap.size := X4.out.below.size
          have hqn : w4.heap.size ≠ q := by have := B4.out.lt; omega
          generalize w4.heap.size = q9 at *
          clear hw b9 x5 r1 r2 r3 B3 B4 X3 X4 O3 O4 NC
          obtain ⟨r1, r2, r3⟩ := B5.out.rules
          obtain ⟨s1, s2, s3⟩ := B9.out.rules
          go_upto_region 7 with (fail)
          refine wp_name (fun w6 hw => ?_)
          have X6 : Hid (Ext w w6) := Lib.hid (by rw [hw]; exact extR10 X5.out hq9 _ _ _ _ _ _ _ _ _ _)
          have KP : Keep (· = q9) w5 w6 := by rw [hw]; exact keepR10 _ _ _ _ _ _ _ _ _ _ _ _
          have KPT : KT [31] w5 w6 := Keep.mono KP (fun j e => by subst e; exact ⟨_, _, by simp, B9.out⟩)
          have B6 := Lib.hid (B5.out.keep KP (fun e => hqn e.symm))
          have b9' : Blk w6 q9 31 #[.slice yL W.L.length yL', .slice yD W.dead.length yD', .int .i64 W.last, .int .i64 W.R.proc, .int .i64 W.R.frame, .slice aRe W.R.ready.length aRe', .slice aWa W.R.wait.length aWa', .slice aDu W.R.due.length aDu', .string ByteArray.empty, .string ByteArray.empty, .int .i64 0, .int .i64 0, .slice none 0 0] := by rw [hw]; exact blkR10 B9.out
          have B96 := Lib.hid b9'
          have NC6 := NC5.out.kt KPT (by decide) (by decide) (by decide) (by decide) (by decide) (by decide)
          have WY : Hid (WorldAt w6 ⟨.slice yL W.L.length yL', yfs, .slice yD W.dead.length yD', .slice aRe W.R.ready.length aRe', .slice aWa W.R.wait.length aWa', .slice aDu W.R.due.length aDu', .slice none 0 0⟩ (barR W)) :=
            Lib.hid ⟨NC6.at_.L, NC6.at_.dead, HW.out.ready.ext X6.out, HW.out.wait.ext X6.out, HW.out.due.ext X6.out, row_nil _ _ _, nums_bar HW.out.nums⟩
          have O6 := Lib.hid (O5.out.kt KPT (by decide))
          clear hw KP KPT b9' NC6 NC5 B5 B9 X5 O5 r2 r3 s1 s2 s3 r1
          have R6 : Hid (Row w6 (.slice A3 n3 c3) n3 1 (cU pb)) := Lib.hid (by have q := (OwnB.own O6.out).row; rw [L3.out] at q; exact q)
          clear O6
          obtain ⟨s1, s2, s3⟩ := B96.out.rules
          go_upto_region 8 with ((first | (go_at_call 21; refine (get_some (b := pb) RA.out OKP.out (by rw [L3.out]; omega) GP.out).mono ?_; rintro e w8 ⟨xu, rfl, nu, x8⟩; simp only [bareW]; obtain ⟨m0L, ufs, m0D, m0Re, m0Wa, m0Du, m0Sn⟩ := xu; obtain ⟨uL, uL', fL⟩ := Own.form nu.L; obtain ⟨uD, uD', fD⟩ := Own.form nu.dead; obtain ⟨uRe, uRe', fRe⟩ := Own.form nu.R.re; obtain ⟨uWa, uWa', fWa⟩ := Own.form nu.R.wa; obtain ⟨uDu, uDu', fDu⟩ := Own.form nu.R.du; obtain ⟨uSn, uSn', fSn⟩ := Own.form nu.R.sn; simp only at fL fD fRe fWa fDu fSn; subst fL fD fRe fWa fDu fSn; simp only [cellsW]; have NU := Lib.hid nu; have RX := Lib.hid (x7.trans x8); have X8 := Lib.hid (Xw7.out.trans x8); have B98 := Lib.hid ((B96.out.ext x7).ext x8); clear nu x8; clear s1 s2 s3; obtain ⟨s1, s2, s3⟩ := B98.out.rules) | (at_builtin; refine wpList_append_nil rfl (.tmp 56) 45 rfl 5 iU (.int .u8 0) 1 1 Try.underlying45 hU hU0 hU1 hU2 rfl (by decide) (by decide) rfl (R6.out) (fun i j => rfl) (by omega) ?_; intro v' w7 o7 x7; obtain ⟨Aw7, cw7, e7⟩ := Own.form o7; subst e7; have Ow7 := Lib.hid o7; have Xw7 := Lib.hid (X6.out.trans x7); have RA : Hid (Row w7 (.slice Aw7 n3 cw7) pb.length 1 (cU pb)) := Lib.hid (by rw [L3.out]; exact Own.row Ow7.out); clear o7)))
          refine wp_name (fun w9 hw => ?_)
          have b10 : Blk w9 w8.heap.size 31 #[.slice uL W.L.length uL', .slice uD 0 uD', .int .i64 W.last, .int .i64 W.R.proc, .int .i64 W.R.frame, .slice uRe W.R.ready.length uRe', .slice uWa W.R.wait.length uWa', .slice uDu W.R.due.length uDu', .string ByteArray.empty, .string ByteArray.empty, .int .i64 0, .int .i64 0, .slice uSn 0 uSn'] := Blk.new' hw
          have x9 := (Ext.refl w8).alloc' hw
          have x69 : Ext w6 w9 := RX.out.trans x9
          have B10 := Lib.hid b10
          have B99 := Lib.hid (B98.out.ext x9)
          have X9 := Lib.hid (X8.out.trans x9)
          have K2 := Lib.hid (fun W2 (z : Ext w9 W2) => lequal ((NU.out.ext x9).at_.ext z) (WY.out.ext (x69.trans z)))
          rw [eq_bar HD.out] at K2
          simp only [cellsW, bareW, barR, List.length_nil] at K2
          have R9 := Lib.hid (R6.out.ext x69)
          generalize w8.heap.size = q10 at *
          clear hw b10 x9 x69 B98 X8 R6 X6 Xw7 B96 WY NU
          obtain ⟨s1, s2, s3⟩ := B99.out.rules
          obtain ⟨t1, t2, t3⟩ := B10.out.rules
          obtain ⟨m, hm⟩ := Int.eq_ofNat_of_zero_le (Int.emod_nonneg k (show (n3 : Int) ≠ 0 by omega))
          have hml : m < n3 := by have := Int.emod_lt_of_pos k (show (0 : Int) < (n3 : Int) by omega); omega
          obtain ⟨A3', c3', e3', hn3c, _⟩ := Row.form R9.out
          injection e3' with e3' _ e3''
          subst e3' e3''
          have hmI : (m : Int) ≤ (c3 : Int) := by omega
          go_upto_region 10 with (go_at_call 22; refine (K2.out _ (is_ext w9 _)).mono ?_; rintro e w10 ⟨rfl, x10⟩; have X10 := Lib.hid (X9.out.trans x10); have R10 := Lib.hid (R9.out.ext x10); clear x10)
          clear K2 X9 R9 B99 B10 s1 s2 s3 t1 t2 t3
          go_upto_region 13 with ((first | (go_at_call 21; refine (get_none (b := pb.take m) (row_take (l := pb) (by rw [L3.out]; exact R10.out) (by rw [L3.out]; omega)) (fun x hx => OKP.out x (List.mem_of_mem_take hx)) (by rw [List.length_take, L3.out]; omega) (get_cut GP.out (by rw [L3.out]; omega) (by rw [L3.out]; omega))).mono ?_; rintro e w11 ⟨rfl, x11⟩; simp only [zeroWc]; have X11 := Lib.hid (X10.out.trans x11); have R11 := Lib.hid (R10.out.ext x11); clear x11) | (go_at_call 23; refine (Word.place k n3 _ (by omega) (by omega) HKK.out.1 HKK.out.2).mono ?_; rintro e wp ⟨rfl, rfl⟩; rw [hm])))
          refine wp_name (fun w12 hw => ?_)
          have x12 := (Ext.refl w11).alloc' hw
          have X12 := Lib.hid (X11.out.trans x12)
          have R12 := Lib.hid (R11.out.ext x12)
          clear hw x12 X11 R11 X10 R10
          have e2 : ((3 : Int) != 3) = false := by decide
          have x12r := Ext.refl w12
          go_upto_region 14 with ((first | (go_at_call 21; refine (get_none (b := pb ++ [0]) RB.out (okB_app OKP.out (fun x hx => by simp only [List.mem_cons, List.not_mem_nil, or_false] at hx; subst hx; omega)) (by rw [List.length_append, L3.out]; show n3 + 1 ≤ _; omega) (get_more GP.out 0 (by rw [List.length_append, L3.out]; show n3 + 1 ≤ _; omega) (by rw [L3.out]; omega))).mono ?_; rintro e w15 ⟨rfl, x15⟩; simp only [zeroWc]; have X15 := Lib.hid (X14.out.trans x15); clear x15) | (at_builtin; refine wpList_append_own_at _ rfl (.tmp 88) (.tmp 89) 45 rfl w12.heap.size 5 iU (.int .u8 0) 1 1 Try.underlying45 hU hU0 hU1 hU2 rfl (by decide) (.slice Aw13 n3 cw13) n3 (pb.map (Value.int .u8)) rfl OB.out ⟨w13.heap.size, 0, none⟩ 1 1 [.int .u8 0] rfl rfl (fun q u hq => by rw [Addr.add_lit, Nat.zero_add, (Blk.new w13 5 #[.int .u8 0]).cell, ← Array.getElem?_toList]; exact hq) (fun u hu => by simp only [List.mem_cons, List.not_mem_nil, or_false] at hu; subst hu; rfl) (by unfold maxLen; omega) (by omega) HZ.out ?_; intro v' w14 o14 g14 _ _; obtain ⟨gd, cd, rfl, _⟩ := o14.form (by omega); have RB : Hid (Row w14 (.slice (some ⟨gd, 0, none⟩) (n3 + 1) cd) (pb ++ [0]).length 1 (cU (pb ++ [0]))) := Lib.hid (by refine (OwnB.own (base := w12.heap.size) ?_).row; unfold OwnB; rw [List.length_append, List.map_append, L3.out]; exact o14); have X14 : Hid (Ext w w14) := Lib.hid (by refine X12.out.trans (OwnB.keep (w := w13.alloc (.cells #[.int .u8 0] 5)) (base := w12.heap.size) (zs := pb) (v := .slice Aw13 n3 cw13) (by unfold OwnB; rw [L3.out]; exact OB.out) (Xn.out.alloc _) rfl ⟨g14.os, g14.tape, g14.output, g14.size, fun k hk hn => g14.block k hk (fun e => hn e.symm)⟩).2); clear o14 g14) | (at_builtin; refine wpList_append_nil rfl (.tmp 87) 45 rfl 5 iU (.int .u8 0) 1 1 Try.underlying45 hU hU0 hU1 hU2 rfl (by decide) (by decide) rfl (R12.out) (fun i j => rfl) (by omega) ?_; intro v' w13 o7 x7; obtain ⟨Aw13, cw13, e7⟩ := Own.form o7; subst e7; have Ow13 := Lib.hid o7; have Xw13 := Lib.hid (X12.out.trans x7); have Xn := Lib.hid x7; have OB : Hid ((w13.alloc (.cells #[.int .u8 0] 5)).ownsRow w12.heap.size 5 1 (.slice Aw13 n3 cw13) n3 (pb.map (Value.int .u8))) := Lib.hid (by have q := (Own.ext Ow13.out ((Ext.refl w13).alloc (.cells #[.int .u8 0] 5))); have f := flat_oneU pb; rw [L3.out] at f; unfold Own at q; rw [f] at q; exact q); have HZ : Hid (w12.heap.size ≤ (w13.alloc (.cells #[.int .u8 0] 5)).heap.size) := Lib.hid (x7.alloc _).below.size; clear o7)))
          have e3 : ((4 : Int) != 4) = false := by decide
          go_wp2_with fail
          go_meet
          exact X15.out.alloc _
        · have e1 : (e0 == 0) = false := beq_eq_false_iff_ne.2 he
          go_wp2_with fail
          go_meet
          exact X3.out
      case rest =>
        clear r1 r2 r3 B3 X3 CWo L3 O3
        have XC := Lib.hid hcut
        clear hcut
        have hL := HL.out
        rcases get_cases (b := b) with ⟨ke, hke, hge⟩ | ⟨U, hge⟩
        · have e1 : (ke != 0) = true := by simp [hke]
          go_upto_region 18 with ((first | (go_at_call 21; refine (get_none (b := b) RA.out HK.out (by rw [HBL.out]; have := HL.out; omega) hge).mono ?_; rintro e w17 ⟨rfl, x17⟩; simp only [zeroWc]; have X17 := Lib.hid (Xw16.out.trans x17); clear x17) | (at_builtin; refine wpList_append_nil rfl (.tmp 97) 45 rfl 5 iU (.int .u8 0) 1 1 Try.underlying45 hU hU0 hU1 hU2 rfl (by decide) (by decide) rfl ((HB.out.ext XC.out)) (fun i j => rfl) (by omega) ?_; intro v' w16 o7 x7; obtain ⟨Aw16, cw16, e7⟩ := Own.form o7; subst e7; have Ow16 := Lib.hid o7; have Xw16 := Lib.hid (XC.out.trans x7); have RA : Hid (Row w16 (.slice Aw16 bl cw16) b.length 1 (cU b)) := Lib.hid (by rw [HBL.out]; exact Own.row Ow16.out); clear o7)))
          go_wp2_with ((go_at_call 18; refine (awake7 _).mono ?_; rintro e w19 ⟨rfl, x19⟩; have X19 := Lib.hid ((X17.out.alloc _).trans x19); clear x19))
          go_ret
          exact ⟨ret_bool rfl, X19.out⟩
        · have e1 : ((0 : Int) != 0) = false := by decide
          obtain ⟨pg1, pg2, pg3⟩ := put_get HK.out hge
          have PG1 := Lib.hid pg1
          have PG2 := Lib.hid pg2
          clear pg1 pg2 pg3
          go_upto_region 19 with ((first | (go_at_call 21; refine (get_some (b := b) RA.out HK.out (by rw [HBL.out]; have := HL.out; omega) hge).mono ?_; rintro e w17 ⟨xu, rfl, nu, x17⟩; obtain ⟨m0L, ufs, m0D, m0Re, m0Wa, m0Du, m0Sn⟩ := xu; obtain ⟨uL, uL', fL⟩ := Own.form nu.L; obtain ⟨uD, uD', fD⟩ := Own.form nu.dead; obtain ⟨uRe, uRe', fRe⟩ := Own.form nu.R.re; obtain ⟨uWa, uWa', fWa⟩ := Own.form nu.R.wa; obtain ⟨uDu, uDu', fDu⟩ := Own.form nu.R.du; obtain ⟨uSn, uSn', fSn⟩ := Own.form nu.R.sn; simp only at fL fD fRe fWa fDu fSn; subst fL fD fRe fWa fDu fSn; simp only [cellsW]; have NU := Lib.hid nu; have X17 := Lib.hid (Xw16.out.trans x17); clear x17 nu) | (at_builtin; refine wpList_append_nil rfl (.tmp 97) 45 rfl 5 iU (.int .u8 0) 1 1 Try.underlying45 hU hU0 hU1 hU2 rfl (by decide) (by decide) rfl ((HB.out.ext XC.out)) (fun i j => rfl) (by omega) ?_; intro v' w16 o7 x7; obtain ⟨Aw16, cw16, e7⟩ := Own.form o7; subst e7; have Ow16 := Lib.hid o7; have Xw16 := Lib.hid (XC.out.trans x7); have RA : Hid (Row w16 (.slice Aw16 bl cw16) b.length 1 (cU b)) := Lib.hid (by rw [HBL.out]; exact Own.row Ow16.out); clear o7)))
          refine wp_name (fun w18 hw => ?_)
          have b10 : Blk w18 w17.heap.size 31 #[.slice uL U.L.length uL', .slice uD U.dead.length uD', .int .i64 U.last, .int .i64 U.R.proc, .int .i64 U.R.frame, .slice uRe U.R.ready.length uRe', .slice uWa U.R.wait.length uWa', .slice uDu U.R.due.length uDu', .string U.R.out, .string U.R.inp, .int .i64 U.R.how, .int .i64 U.R.exit, .slice uSn U.R.snaps.length uSn'] := Blk.new' hw
          have x18 := (Ext.refl w17).alloc' hw
          have X18 := Lib.hid (X17.out.trans x18)
          have B10 := Lib.hid b10
          have NU8 := Lib.hid (NU.out.ext x18)
          generalize w17.heap.size = q10 at *
          clear hw b10 x18 X17 NU
          obtain ⟨t1, t2, t3⟩ := B10.out.rules
          have KP := Lib.hid (fun W2 (z : Ext w18 W2) => putW (NU8.out.at_.ext z))
          have KC := Lib.hid (fun W2 (z : Ext w18 W2) => check (NU8.out.at_.ext z))
          rw [PG2.out] at KP
          rw [PG1.out] at KC
          simp only [cellsW] at KP KC
          go_upto_region 20 with (go_at_call 19; refine (KP.out _ (is_ext w18 _)).mono ?_; rintro e w20 ⟨A20, c20, n20, rfl, o20, l20, x20⟩; have O20 := Lib.hid o20; have L20 := Lib.hid l20; have X20 := Lib.hid x20; have B20 := Lib.hid (B10.out.ext x20); clear o20 l20 x20; clear t1 t2 t3; obtain ⟨t1, t2, t3⟩ := B20.out.rules)
          have hn20 : n20 = bl := by rw [← HBL.out]; exact L20.out.symm
          subst hn20
          have r20 : Row w20 (.slice A20 n20 c20) b.length 1 (cU b) := (OwnB.own O20.out).row
          have rB : Row w20 (.slice aB n20 aB') b.length 1 (cU b) := by rw [HBL.out]; exact HB.out.ext (X18.out.trans X20.out)
          have hcv : ∀ y, (convert 45 9 (.slice A20 n20 c20)).run Try.prog (ext w20 y) = .ok (.string (strI b)) (ext w20 y) := fun y => conv_str (Row.ext r20 ⟨y, rfl⟩)
          have hcb : ∀ y, (convert 45 9 (.slice aB n20 aB')).run Try.prog (ext w20 y) = .ok (.string (strI b)) (ext w20 y) := fun y => conv_str (Row.ext rB ⟨y, rfl⟩)
          have CK := Lib.hid (fun W2 (z : Ext w20 W2) => KC.out W2 (X20.out.trans z))
          clear r20 rB
          refine wp_region_fixed ?_
          repeat (go_big_quiet_step ((first | (go_at_call 24; with_reducible exact calls_ext (CK.out _ (is_ext w20 _))) | (go_at_call 18; with_reducible exact calls_ext (awake7 _)))))
          refine wpQuiet_nil ?_
          rintro W3 ⟨xx, hx⟩
          have X21 := Lib.hid ((X18.out.trans X20.out).trans ⟨xx, hx⟩)
          clear hx t1 t2 t3
          go_wp2_with fail
          go_ret
          exact ⟨ret_bool rfl, X21.out⟩
end
end Go.Proofs.Ytadhkmplhgcgkaa.World
