/-
  ImgAll, as one text (a claim has at most 60 files).
-/
import Derived.Test.YtadhkmplhgcgkaaMc50
import Derived.Test.YtadhkmplhgcgkaaMc52
import Derived.Test.YtadhkmplhgcgkaaMc06
import Derived.Deep.RegionHeld3
namespace Go.Proofs.Ytadhkmplhgcgkaa.World
open Go.RowKit Go.Proofs.Ytadhkmplhgcgkaa.Plain
set_option linter.unusedVariables false
attribute [local go_sem ↓] Go.wp_at_zero Go.wp_at_succ
structure IA7 (w0 : World) (q q9 q11 : Nat) (cw cu cv : Array Value) (W U : PW) (A5 : Option Addr) (n5 c5 : Nat) (sx : ByteArray) (e0 g0 : Int) (cb : Bool) (uD : Option Addr) (uD' : Nat) (L : Nat → Bool) (s : Nat → Value) (w : World) : Prop where
  x : Ext w0 w
  bq : Blk w q 31 cw
  b9 : Blk w q9 31 cu
  b11 : Blk w q11 31 cv
  v0 : L 0 = true → s 45 = .slice A5 n5 c5
  v1 : L 1 = true → s 46 = .string sx
  v2 : L 2 = true → s 47 = .string sx
  v3 : L 3 = true → s 48 = .bool true
  v4 : L 4 = true → s 49 = .bool true
  v5 : L 5 = true → s 50 = .int .i64 e0
  v6 : L 6 = true → s 51 = .int .i64 e0
  v7 : L 7 = true → s 52 = .bool true
  v8 : L 8 = true → s 53 = .bool true
  v9 : L 9 = true → s 54 = .bool true
  v10 : L 10 = true → s 55 = .agg cu
  v11 : L 11 = true → s 56 = .agg cv
  v12 : L 12 = true → s 57 = .bool true
  v13 : L 13 = true → s 58 = .bool true
  v14 : L 14 = true → s 59 = .bool true
  v15 : L 15 = true → s 60 = .pointer (some ⟨q9, 1, none⟩)
  v16 : L 16 = true → s 61 = .slice uD U.dead.length uD'
  v17 : L 17 = true → s 62 = .int .i64 0
  v18 : L 18 = true → s 63 = .bool true
  v19 : L 19 = true → s 64 = .bool true
  v20 : L 20 = true → s 65 = .bool true
  v21 : L 21 = true → s 66 = .int .i64 g0
  v22 : L 22 = true → s 67 = .int .i64 g0
  v23 : L 23 = true → s 68 = .bool true
  v24 : L 24 = true → s 69 = .bool true
  v25 : L 25 = true → s 70 = .bool true
  v26 : L 26 = true → s 71 = .agg cw
  v27 : L 27 = true → ∃ x, s 72 = .agg (cellsW W x) ∧ WorldAt w x W
  v28 : L 28 = true → s 73 = .bool cb
  v29 : L 29 = true → s 74 = .agg cw
  v30 : L 30 = true → s 75 = .bool cb
  v31 : L 31 = true → s 76 = .bool true
  v32 : L 32 = true → s 77 = .bool true
  v33 : L 33 = true → s 78 = .bool true
  v34 : L 34 = true → s 79 = .agg cw
  v35 : L 35 = true → ∃ x, s 80 = .agg (cellsW W x) ∧ WorldAt w x W
  v36 : L 36 = true → s 81 = .agg cw
  v37 : L 37 = true → s 82 = .bool true
  v38 : L 38 = true → s 83 = .bool true
  v39 : L 39 = true → s 84 = .bool true
  v40 : L 40 = true → s 85 = .bool true
  v41 : L 41 = true → s 86 = .bool true
  v42 : L 42 = true → s 4 = .bool true
theorem IA7.ext {w w' : World} {w0 : World} {q q9 q11 : Nat} {cw cu cv : Array Value} {W U : PW} {A5 : Option Addr} {n5 c5 : Nat} {sx : ByteArray} {e0 g0 : Int} {cb : Bool} {uD : Option Addr} {uD' : Nat} {L : Nat → Bool} {s : Nat → Value} (I : IA7 w0 q q9 q11 cw cu cv W U A5 n5 c5 sx e0 g0 cb uD uD' L s w) (y : Ext w w') : IA7 w0 q q9 q11 cw cu cv W U A5 n5 c5 sx e0 g0 cb uD uD' L s w' := by
  refine ⟨I.x.trans y, I.bq.ext y, I.b9.ext y, I.b11.ext y, I.v0, I.v1, I.v2, I.v3, I.v4, I.v5, I.v6, I.v7, I.v8, I.v9, I.v10, I.v11, I.v12, I.v13, I.v14, I.v15, I.v16, I.v17, I.v18, I.v19, I.v20, I.v21, I.v22, I.v23, I.v24, I.v25, I.v26, fun h => ?_, I.v28, I.v29, I.v30, I.v31, I.v32, I.v33, I.v34, fun h => ?_, I.v36, I.v37, I.v38, I.v39, I.v40, I.v41, I.v42⟩
  · obtain ⟨x, e, h⟩ := I.v27 h; exact ⟨x, e, h.ext y⟩
  · obtain ⟨x, e, h⟩ := I.v35 h; exact ⟨x, e, h.ext y⟩
def frIA7 (q q9 q11 : Nat) (A5 : Option Addr) (n5 c5 : Nat) (sx : ByteArray) (e0 g0 : Int) (u s : Nat → Value) : Act := { tmps := #[u 0, u 1, .pointer (some ⟨q, 0, none⟩), u 3, s 4, .slice A5 n5 c5, .int .i64 e0, .string sx, .int .i64 e0, .pointer (some ⟨q9, 0, none⟩), .int .i64 g0, .pointer (some ⟨q11, 0, none⟩), .int .i64 g0, u 13, u 14, u 15, u 16, u 17, u 18, u 19, u 20, u 21, u 22, u 23, u 24, u 25, u 26, u 27, u 28, u 29, u 30, u 31, u 32, u 33, u 34, u 35, u 36, u 37, u 38, u 39, u 40, u 41, u 42, u 43, u 44, s 45, s 46, s 47, s 48, s 49, s 50, s 51, s 52, s 53, s 54, s 55, s 56, s 57, s 58, s 59, s 60, s 61, s 62, s 63, s 64, s 65, s 66, s 67, s 68, s 69, s 70, s 71, s 72, s 73, s 74, s 75, s 76, s 77, s 78, s 79, s 80, s 81, s 82, s 83, s 84, s 85, s 86], defers := [] }
def IA7Inv (w0 : World) (q q9 q11 : Nat) (cw cu cv : Array Value) (W U : PW) (A5 : Option Addr) (n5 c5 : Nat) (sx : ByteArray) (e0 g0 : Int) (cb : Bool) (uD : Option Addr) (uD' : Nat) (u : Nat → Value) (listed : Array Bool) (a : Act) (w : World) : Prop :=
  ∃ L : Nat → Bool, (∀ k, listed.getD k false = L k) ∧ ∃ s : Nat → Value, a = frIA7 q q9 q11 A5 n5 c5 sx e0 g0 u s ∧ listed.size = 43 ∧ IA7 w0 q q9 q11 cw cu cv W U A5 n5 c5 sx e0 g0 cb uD uD' L s w
section
variable {w : World} {x : WV} {W : PW}
set_option maxRecDepth 100000 in
set_option maxHeartbeats 16000000 in
theorem imageAll (h : WorldAt w x W) {vb : Value} {b : List Int} (hb : Row w vb b.length 1 (cU b)) (kb : okB b) (nb : b.length ≤ maxLen) :
    Calls Try.prog 7 #[.agg (cellsW W x), vb] w fun e w' => e = .returned (.bool true) ∧ Ext w w' := by
  have HA := Lib.hid h
  have CF := Lib.hid (fun W2 (z : Ext w W2) => few (h.ext z) 120)
  have CP := Lib.hid (fun W2 (z : Ext w W2) (hf : fewB W 120 = true) => rput (h.ext z) (fun hc => enc_few hc h.nums hf))
  have CWo0 := Lib.hid (fun W2 (z : Ext w W2) (hf : fewB W 120 = true) => world_few (h.ext z) hf)
  have CCo0 := Lib.hid (fun W2 (z : Ext w W2) (hf : fewB W 120 = true) => copy_few (h.ext z) hf)
  have CK0 := Lib.hid (fun W2 (z : Ext w W2) => check7 (h.ext z))
  obtain ⟨aB, aB', eB, lB, _⟩ := Row.form hb
  subst eB
  have HB := Lib.hid hb
  have HK := Lib.hid kb
  have HN := Lib.hid nb
  clear hb kb nb
  obtain ⟨avL, afs, avD, avRe, avWa, avDu, avSn⟩ := x
  obtain ⟨aL, aL', eaL, _, _⟩ := h.L.row.form
  replace eaL : avL = .slice aL W.L.length aL' := eaL
  subst eaL
  obtain ⟨aD, aD', eaD, _, _⟩ := Row.form h.dead
  replace eaD : avD = .slice aD W.dead.length aD' := eaD
  subst eaD
  obtain ⟨aRe, aRe', eaRe, _, _⟩ := Row.form h.ready
  replace eaRe : avRe = .slice aRe W.R.ready.length aRe' := eaRe
  subst eaRe
  obtain ⟨aWa, aWa', eaWa, _, _⟩ := Row.form h.wait
  replace eaWa : avWa = .slice aWa W.R.wait.length aWa' := eaWa
  subst eaWa
  obtain ⟨aDu, aDu', eaDu, _, _⟩ := Row.form h.due
  replace eaDu : avDu = .slice aDu W.R.due.length aDu' := eaDu
  subst eaDu
  obtain ⟨aSn, aSn', eaSn, _, _⟩ := Row.form h.snaps
  replace eaSn : avSn = .slice aSn W.R.snaps.length aSn' := eaSn
  subst eaSn
  clear h
  simp only [cellsW] at CF CP CWo0 CCo0 CK0 ⊢
  generalize hbl : b.length = bl at *
  have HBL := Lib.hid hbl
  clear hbl
  obtain ⟨p1, h1⟩ : ∃ p, (!fewB W 120) = p := ⟨_, rfl⟩
  obtain ⟨p2, h2⟩ : ∃ p, decide ((20000 : Int) < (bl : Int)) = p := ⟨_, rfl⟩
  have G1 := Lib.hid h1
  have G2 := Lib.hid h2
  go_enter Try.func7, Try.ntmps7
  go_upto_region 1 with (fail)
  refine wp_name (fun w1 hw => ?_)
  have b0 := Blk.new' hw
  have x0 := (Ext.refl w).alloc' hw
  clear hw
  obtain ⟨r1, r2, r3⟩ := b0.rules
  have B0 := Lib.hid b0
  have X0 := Lib.hid x0
  clear b0 x0
  generalize hqq : w.heap.size = q at *
  have QB := Lib.hid hqq
  clear hqq
  refine wp_region_fixed ?_
  repeat (go_big_quiet_step ((go_at_call 17; with_reducible exact calls_ext (CF.out _ (X0.out.ext _)))))
  cases p1 with
  | true =>
    repeat (go_big_quiet_step ((go_at_call 17; with_reducible exact calls_ext (CF.out _ (X0.out.ext _)))))
    refine wpQuiet_nil ?_
    rintro W3 ⟨xx, hx⟩
    have X3 := Lib.hid (X0.out.trans ⟨xx, hx⟩)
    clear hx r1 r2 r3
    go_wp2_with ((go_at_call 18; refine (awake7 _).mono ?_; rintro e w9 ⟨rfl, x9⟩; have X9 := Lib.hid (X3.out.trans x9); clear x9))
    go_ret
    exact ⟨ret_bool rfl, X9.out⟩
  | false =>
    repeat (go_big_quiet_step ((go_at_call 17; with_reducible exact calls_ext (CF.out _ (X0.out.ext _)))))
    cases p2 with
    | true =>
      repeat (go_big_quiet_step ((go_at_call 17; with_reducible exact calls_ext (CF.out _ (X0.out.ext _)))))
      refine wpQuiet_nil ?_
      rintro W3 ⟨xx, hx⟩
      have X3 := Lib.hid (X0.out.trans ⟨xx, hx⟩)
      clear hx r1 r2 r3
      go_wp2_with ((go_at_call 18; refine (awake7 _).mono ?_; rintro e w9 ⟨rfl, x9⟩; have X9 := Lib.hid (X3.out.trans x9); clear x9))
      go_ret
      exact ⟨ret_bool rfl, X9.out⟩
    | false =>
      repeat (go_big_quiet_step ((go_at_call 17; with_reducible exact calls_ext (CF.out _ (X0.out.ext _)))))
      refine wpQuiet_nil ?_
      rintro w2 ⟨xx, hx⟩
      have hf : fewB W 120 = true := by have := G1.out; simpa using this
      have hbl : bl ≤ 20000 := by have := of_decide_eq_false G2.out; omega
      have X2 := Lib.hid (X0.out.trans ⟨xx, hx⟩)
      have B2 := Lib.hid (B0.out.ext ⟨xx, hx⟩)
      clear hx B0 X0 r1 r2 r3 h1 h2 G1 G2 CF
      replace CP := Lib.hid (fun W2 (z : Ext w W2) => CP.out W2 z hf)
      replace CWo0 := Lib.hid (fun W2 (z : Ext w W2) => CWo0.out W2 z hf)
      replace CCo0 := Lib.hid (fun W2 (z : Ext w W2) => CCo0.out W2 z hf)
      clear hf
      obtain ⟨iU, hU, hU0, hU1, hU2⟩ := info_parts infoU
      obtain ⟨r1, r2, r3⟩ := B2.out.rules
      go_upto_region 4 with ((first | (go_at_call 19; refine (putW N3.out.at_).mono ?_; rintro e w4 ⟨A5, c5, n5, rfl, o5, l5, x5⟩; generalize he0 : (putS W).1 = e0; have E0 := Lib.hid he0; have O5 := Lib.hid o5; have L5 := Lib.hid l5; have X4 := Lib.hid (X3.out.trans x5); have B4 := Lib.hid (B3.out.ext x5); clear o5 l5 x5 he0; clear r1 r2 r3; obtain ⟨r1, r2, r3⟩ := B4.out.rules) | (go_at_call 20; refine (CWo0.out _ X2.out).mono ?_; rintro e w3 ⟨⟨xc, rfl, nc⟩, x3⟩; obtain ⟨m0L, yfs, m0D, m0Re, m0Wa, m0Du, m0Sn⟩ := xc; obtain ⟨yL, yL', fL⟩ := Own.form nc.L; obtain ⟨yD, yD', fD⟩ := Own.form nc.dead; obtain ⟨yRe, yRe', fRe⟩ := Own.form nc.R.re; obtain ⟨yWa, yWa', fWa⟩ := Own.form nc.R.wa; obtain ⟨yDu, yDu', fDu⟩ := Own.form nc.R.du; obtain ⟨ySn, ySn', fSn⟩ := Own.form nc.R.sn; simp only at fL fD fRe fWa fDu fSn; subst fL fD fRe fWa fDu fSn; simp only; have N3 := Lib.hid nc; have X3 := Lib.hid (X2.out.trans x3); have B3 := Lib.hid (B2.out.ext x3); clear nc x3; clear r1 r2 r3; obtain ⟨r1, r2, r3⟩ := B3.out.rules)))
      rw [E0.out] at CP
      go_upto_region 5 with (go_at_call 29; refine (CP.out _ X4.out).mono ?_; rintro e w5 ⟨rfl, x5⟩; have X5 := Lib.hid (X4.out.trans x5); have B5 := Lib.hid (B4.out.ext x5); have O6 := Lib.hid (O5.out.ext x5); clear x5 r1 r2 r3)
      obtain ⟨U, hU'⟩ : ∃ U, getU b = U := ⟨_, rfl⟩
      obtain ⟨g0, hg0⟩ : ∃ g, (getS b).1 = g := ⟨_, rfl⟩
      have HU' := Lib.hid hU'
      have HG0 := Lib.hid hg0
      clear hU' hg0
      go_upto_region 6 with ((first | (go_at_call 21; refine ((getW RA.out HK.out (by rw [HBL.out]; omega)).mono (fun e w' p => post_u p)).mono ?_; rw [HU'.out, HG0.out]; rintro e w8 ⟨xu, rfl, au, x8⟩; obtain ⟨uvL, ufs, uvD, uvRe, uvWa, uvDu, uvSn⟩ := xu; obtain ⟨uL, uL', euL, _, _⟩ := au.L.row.form; replace euL : uvL = .slice uL U.L.length uL' := euL; subst euL; obtain ⟨uD, uD', euD, _, _⟩ := Row.form au.dead; replace euD : uvD = .slice uD U.dead.length uD' := euD; subst euD; obtain ⟨uRe, uRe', euRe, _, _⟩ := Row.form au.ready; replace euRe : uvRe = .slice uRe U.R.ready.length uRe' := euRe; subst euRe; obtain ⟨uWa, uWa', euWa, _, _⟩ := Row.form au.wait; replace euWa : uvWa = .slice uWa U.R.wait.length uWa' := euWa; subst euWa; obtain ⟨uDu, uDu', euDu, _, _⟩ := Row.form au.due; replace euDu : uvDu = .slice uDu U.R.due.length uDu' := euDu; subst euDu; obtain ⟨uSn, uSn', euSn, _, _⟩ := Row.form au.snaps; replace euSn : uvSn = .slice uSn U.R.snaps.length uSn' := euSn; subst euSn; simp only [cellsW]; have NU := Lib.hid au; have X8 := Lib.hid (Xw7.out.trans x8); have RX := Lib.hid (x7.trans x8); clear au x8) | (at_builtin; refine wpList_append_nil rfl (.tmp 34) 45 rfl 5 iU (.int .u8 0) 1 1 Try.underlying45 hU hU0 hU1 hU2 rfl (by decide) (by decide) rfl (HB.out.ext X5.out) (fun i j => rfl) (by omega) ?_; intro v' w7 o7 x7; obtain ⟨Aw7, cw7, e7⟩ := Own.form o7; subst e7; have Ow7 := Lib.hid o7; have Xw7 := Lib.hid (X5.out.trans x7); have RA : Hid (Row w7 (.slice Aw7 bl cw7) b.length 1 (cU b)) := Lib.hid (by rw [HBL.out]; exact Own.row Ow7.out); clear o7)))
      refine wp_name (fun w9 hw => ?_)
      have b9 : Blk w9 w8.heap.size 31 #[.slice uL U.L.length uL', .slice uD U.dead.length uD', .int .i64 U.last, .int .i64 U.R.proc, .int .i64 U.R.frame, .slice uRe U.R.ready.length uRe', .slice uWa U.R.wait.length uWa', .slice uDu U.R.due.length uDu', .string U.R.out, .string U.R.inp, .int .i64 U.R.how, .int .i64 U.R.exit, .slice uSn U.R.snaps.length uSn'] := Blk.new' hw
      have x9 := (Ext.refl w8).alloc' hw
      have B9 := Lib.hid b9
      have X9 := Lib.hid (X8.out.trans x9)
      have NU9 := Lib.hid (NU.out.ext x9)
      have R9 := Lib.hid (RX.out.trans x9)
      generalize w8.heap.size = q9 at *
      clear hw b9 x9 X8 NU RX
      have rB : Row w9 (.slice aB bl aB') b.length 1 (cU b) := by rw [HBL.out]; exact HB.out.ext X9.out
      have hcb : (convert 45 9 (.slice aB bl aB')).run Try.prog w9 = .ok (.string (strI b)) w9 := conv_str rB
      have CG : Hid (∀ W2, Calls Try.prog 30 #[.string (strI b)] W2 fun e w' => ∃ x, e = .returned (.tuple #[.agg (cellsW U x), .int .i64 g0]) ∧ WorldAt w' x U ∧ Ext W2 w') := Lib.hid (fun W2 => by
        have q := (rgetW (w := W2) (S := strI b) (by rw [strI_len, HBL.out]; omega)).mono (fun e w' p => post_u (by rw [bytes_strI HK.out] at p; exact p))
        rw [HU'.out, HG0.out] at q
        exact q)
      generalize strI b = sb at *
      clear rB
      go_upto_region 7 with (go_at_call 30; refine (CG.out _).mono ?_; rintro e w10 ⟨xv, rfl, av, x10⟩; obtain ⟨vvL, vfs, vvD, vvRe, vvWa, vvDu, vvSn⟩ := xv; obtain ⟨vL, vL', evL, _, _⟩ := av.L.row.form; replace evL : vvL = .slice vL U.L.length vL' := evL; subst evL; obtain ⟨vD, vD', evD, _, _⟩ := Row.form av.dead; replace evD : vvD = .slice vD U.dead.length vD' := evD; subst evD; obtain ⟨vRe, vRe', evRe, _, _⟩ := Row.form av.ready; replace evRe : vvRe = .slice vRe U.R.ready.length vRe' := evRe; subst evRe; obtain ⟨vWa, vWa', evWa, _, _⟩ := Row.form av.wait; replace evWa : vvWa = .slice vWa U.R.wait.length vWa' := evWa; subst evWa; obtain ⟨vDu, vDu', evDu, _, _⟩ := Row.form av.due; replace evDu : vvDu = .slice vDu U.R.due.length vDu' := evDu; subst evDu; obtain ⟨vSn, vSn', evSn, _, _⟩ := Row.form av.snaps; replace evSn : vvSn = .slice vSn U.R.snaps.length vSn' := evSn; subst evSn; simp only [cellsW]; have NV := Lib.hid av; have X10 := Lib.hid (X9.out.trans x10); have R10 := Lib.hid (R9.out.trans x10); have B90 := Lib.hid (B9.out.ext x10); have NU10 := Lib.hid (NU9.out.ext x10); clear av x10)
      refine wp_name (fun w1 hw => ?_)
      have b11 : Blk w1 w10.heap.size 31 #[.slice vL U.L.length vL', .slice vD U.dead.length vD', .int .i64 U.last, .int .i64 U.R.proc, .int .i64 U.R.frame, .slice vRe U.R.ready.length vRe', .slice vWa U.R.wait.length vWa', .slice vDu U.R.due.length vDu', .string U.R.out, .string U.R.inp, .int .i64 U.R.how, .int .i64 U.R.exit, .slice vSn U.R.snaps.length vSn'] := Blk.new' hw
      have x1 := (Ext.refl w10).alloc' hw
      have B11 := Lib.hid b11
      have X1 := Lib.hid (X10.out.trans x1)
      have NU1 := Lib.hid (NU10.out.ext x1)
      have NV1 := Lib.hid (NV.out.ext x1)
      have B9n := Lib.hid (B90.out.ext x1)
      have R1 := Lib.hid (R10.out.trans x1)
      generalize w10.heap.size = q11 at *
      clear hw b11 x1 X10 NU10 NV B90 R10 hcb CG B9
      have B9 := Lib.hid B9n.out
      have B1 := Lib.hid (B5.out.ext R1.out)
      have hdd : U.dead = [] := by rw [← HU'.out]; exact getU_dead HK.out
      have HD0 : Hid (U.dead.length = 0) := Lib.hid (by rw [hdd]; rfl)
      obtain ⟨sx, hsx⟩ : ∃ s, strI (putS W).2 = s := ⟨_, rfl⟩
      rw [hsx]
      have CV : Hid (∀ W2, Ext w1 W2 → (convert 45 9 (.slice A5 n5 c5)).run Try.prog W2 = .ok (.string sx) W2) := Lib.hid (fun W2 z => by
        have ro : Row w5 (.slice A5 n5 c5) (putS W).2.length 1 (cU (putS W).2) := (OwnB.own O6.out).row
        have q := conv_str (Row.ext ro (R1.out.trans z))
        rw [hsx] at q
        exact q)
      obtain ⟨cb, hcb⟩ : ∃ c, checkB W = c := ⟨_, rfl⟩
      have CE := Lib.hid (fun W2 (z : Ext w1 W2) => lequal (NU1.out.ext z) (NV1.out.ext z))
      have CWo : Hid (∀ W2, Ext w1 W2 → _) := Lib.hid (fun W2 (z : Ext w1 W2) => (CWo0.out W2 (X1.out.trans z)).mono (fun e w' (p : (∃ x', e = .returned (.agg (cellsW W x')) ∧ NewW w' W2.heap.size W x') ∧ Ext W2 w') => show ∃ x, e = .returned (.agg (cellsW W x)) ∧ WorldAt w' x W ∧ Ext W2 w' from by obtain ⟨⟨x', e1, n⟩, xx⟩ := p; exact ⟨x', e1, n.at_, xx⟩))
      have CCo := Lib.hid (fun W2 (z : Ext w1 W2) => CCo0.out W2 (X1.out.trans z))
      have CK2 := Lib.hid (fun W2 (z : Ext w1 W2) => CK0.out W2 (X1.out.trans z))
      have CQ := Lib.hid (fun W2 (z : Ext w1 W2) xx (hx : WorldAt W2 xx W) => lequal hx (HA.out.ext (X1.out.trans z)))
      have CK1 : ∀ {W2 : World} {xx : WV}, WorldAt W2 xx W → Calls Try.prog 24 #[.agg (cellsW W xx)] W2 fun e w' => e = .returned (.bool cb) ∧ Ext W2 w' := fun hx => by
        have q := check hx
        rw [hcb] at q
        exact q
      rw [hcb] at CK2
      rw [eqE_refl] at CE
      simp only [cellsW, eqE_refl] at CE CQ CK1
      clear hcb hsx hdd CWo0 CCo0 CK0 CP B9n NU1 NV1 HA
      refine wp_any_act (fun A hA => ?_)
      have eA : A = frIA7 q q9 q11 A5 n5 c5 sx e0 g0 (fun q => A.tmps.getD q undef) (fun q => A.tmps.getD q undef) := by rw [hA]; rfl
      clear hA
      generalize (fun q => A.tmps.getD q undef) = uu at eA
      subst eA
      refine wp_region_inv (Inv := IA7Inv w1 q q9 q11 #[.slice aL W.L.length aL', .slice aD W.dead.length aD', .int .i64 W.last, .int .i64 W.R.proc, .int .i64 W.R.frame, .slice aRe W.R.ready.length aRe', .slice aWa W.R.wait.length aWa', .slice aDu W.R.due.length aDu', .string W.R.out, .string W.R.inp, .int .i64 W.R.how, .int .i64 W.R.exit, .slice aSn W.R.snaps.length aSn'] #[.slice uL U.L.length uL', .slice uD U.dead.length uD', .int .i64 U.last, .int .i64 U.R.proc, .int .i64 U.R.frame, .slice uRe U.R.ready.length uRe', .slice uWa U.R.wait.length uWa', .slice uDu U.R.due.length uDu', .string U.R.out, .string U.R.inp, .int .i64 U.R.how, .int .i64 U.R.exit, .slice uSn U.R.snaps.length uSn'] #[.slice vL U.L.length vL', .slice vD U.dead.length vD', .int .i64 U.last, .int .i64 U.R.proc, .int .i64 U.R.frame, .slice vRe U.R.ready.length vRe', .slice vWa U.R.wait.length vWa', .slice vDu U.R.due.length vDu', .string U.R.out, .string U.R.inp, .int .i64 U.R.how, .int .i64 U.R.exit, .slice vSn U.R.snaps.length vSn'] W U A5 n5 c5 sx e0 g0 cb uD uD' uu) (by kernel_rfl) ?_ ?_ ?_
      · refine ⟨fun _ => false, fun k => ?_, uu, rfl, by simp, ⟨(Ext.refl _).drew, B1.out.drew, B9.out.drew, B11.out.drew, ?_, ?_, ?_, ?_, ?_, ?_, ?_, ?_, ?_, ?_, ?_, ?_, ?_, ?_, ?_, ?_, ?_, ?_, ?_, ?_, ?_, ?_, ?_, ?_, ?_, ?_, ?_, ?_, ?_, ?_, ?_, ?_, ?_, ?_, ?_, ?_, ?_, ?_, ?_, ?_, ?_, ?_, ?_⟩⟩
        · rw [Array.getD_eq_getD_getElem?, Array.getElem?_replicate]; split <;> rfl
        all_goals (intro h; cases h)
      · rintro listed act w2 ii ⟨L, hL, s, rfl, hsz, I⟩ hi
        obtain ⟨hlt, hnot, hdep⟩ := (ready_iff _ _).1 hi
        have hiN : ii < 43 := hlt
        have casesN : ii = 0 ∨ ii = 1 ∨ ii = 2 ∨ ii = 3 ∨ ii = 4 ∨ ii = 5 ∨ ii = 6 ∨ ii = 7 ∨ ii = 8 ∨ ii = 9 ∨ ii = 10 ∨ ii = 11 ∨ ii = 12 ∨ ii = 13 ∨ ii = 14 ∨ ii = 15 ∨ ii = 16 ∨ ii = 17 ∨ ii = 18 ∨ ii = 19 ∨ ii = 20 ∨ ii = 21 ∨ ii = 22 ∨ ii = 23 ∨ ii = 24 ∨ ii = 25 ∨ ii = 26 ∨ ii = 27 ∨ ii = 28 ∨ ii = 29 ∨ ii = 30 ∨ ii = 31 ∨ ii = 32 ∨ ii = 33 ∨ ii = 34 ∨ ii = 35 ∨ ii = 36 ∨ ii = 37 ∨ ii = 38 ∨ ii = 39 ∨ ii = 40 ∨ ii = 41 ∨ ii = 42 := by omega
        have hn0 : L ii = false := by rw [← hL ii]; exact not_bit hnot
        clear hi hlt hiN hnot
        unfold frIA7
        rcases casesN with rfl | rfl | rfl | rfl | rfl | rfl | rfl | rfl | rfl | rfl | rfl | rfl | rfl | rfl | rfl | rfl | rfl | rfl | rfl | rfl | rfl | rfl | rfl | rfl | rfl | rfl | rfl | rfl | rfl | rfl | rfl | rfl | rfl | rfl | rfl | rfl | rfl | rfl | rfl | rfl | rfl | rfl | rfl
        · -- operation 0
          refine wpOp_step rfl (fun K' hK => ?_)
          go_simp
          exact hK _ _ ⟨_, bit_set hL hsz 0 (by omega), fun jx => if jx = 45 then .slice A5 n5 c5 else s jx, by first | (simp [frIA7]; done) | (simp [frIA7]; rfl), by simpa using hsz, ⟨I.x, I.bq, I.b9, I.b11, fun _ => rfl, I.v1, I.v2, I.v3, I.v4, I.v5, I.v6, I.v7, I.v8, I.v9, I.v10, I.v11, I.v12, I.v13, I.v14, I.v15, I.v16, I.v17, I.v18, I.v19, I.v20, I.v21, I.v22, I.v23, I.v24, I.v25, I.v26, I.v27, I.v28, I.v29, I.v30, I.v31, I.v32, I.v33, I.v34, I.v35, I.v36, I.v37, I.v38, I.v39, I.v40, I.v41, I.v42⟩⟩
        · -- operation 1
          simp [hL, Region.binds] at hdep
          have d0 : L 0 = true := by simp [hdep]
          have e0 := I.v0 d0
          have hcv := CV.out _ I.x
          refine wpOp_step rfl (fun K' hK => ?_)
          rw [e0]
          go_simp
          exact hK _ _ ⟨_, bit_set hL hsz 1 (by omega), fun jx => if jx = 46 then .string sx else s jx, by first | (simp [frIA7, e0]; done) | (simp [frIA7, e0]; rfl), by simpa using hsz, ⟨I.x, I.bq, I.b9, I.b11, I.v0, fun _ => rfl, I.v2, I.v3, I.v4, I.v5, I.v6, I.v7, I.v8, I.v9, I.v10, I.v11, I.v12, I.v13, I.v14, I.v15, I.v16, I.v17, I.v18, I.v19, I.v20, I.v21, I.v22, I.v23, I.v24, I.v25, I.v26, I.v27, I.v28, I.v29, I.v30, I.v31, I.v32, I.v33, I.v34, I.v35, I.v36, I.v37, I.v38, I.v39, I.v40, I.v41, I.v42⟩⟩
        · -- operation 2
          refine wpOp_step rfl (fun K' hK => ?_)
          go_simp
          exact hK _ _ ⟨_, bit_set hL hsz 2 (by omega), fun jx => if jx = 47 then .string sx else s jx, by first | (simp [frIA7]; done) | (simp [frIA7]; rfl), by simpa using hsz, ⟨I.x, I.bq, I.b9, I.b11, I.v0, I.v1, fun _ => rfl, I.v3, I.v4, I.v5, I.v6, I.v7, I.v8, I.v9, I.v10, I.v11, I.v12, I.v13, I.v14, I.v15, I.v16, I.v17, I.v18, I.v19, I.v20, I.v21, I.v22, I.v23, I.v24, I.v25, I.v26, I.v27, I.v28, I.v29, I.v30, I.v31, I.v32, I.v33, I.v34, I.v35, I.v36, I.v37, I.v38, I.v39, I.v40, I.v41, I.v42⟩⟩
        · -- operation 3
          simp [hL, Region.binds] at hdep
          have d1 : L 1 = true := by simp [hdep]
          have d2 : L 2 = true := by simp [hdep]
          have e1 := I.v1 d1
          have e2 := I.v2 d2
          refine wpOp_step rfl (fun K' hK => ?_)
          rw [e1, e2]
          go_simp
          exact hK _ _ ⟨_, bit_set hL hsz 3 (by omega), fun jx => if jx = 48 then .bool true else s jx, by first | (simp [frIA7, e1, e2]; done) | (simp [frIA7, e1, e2]; rfl), by simpa using hsz, ⟨I.x, I.bq, I.b9, I.b11, I.v0, I.v1, I.v2, fun _ => rfl, I.v4, I.v5, I.v6, I.v7, I.v8, I.v9, I.v10, I.v11, I.v12, I.v13, I.v14, I.v15, I.v16, I.v17, I.v18, I.v19, I.v20, I.v21, I.v22, I.v23, I.v24, I.v25, I.v26, I.v27, I.v28, I.v29, I.v30, I.v31, I.v32, I.v33, I.v34, I.v35, I.v36, I.v37, I.v38, I.v39, I.v40, I.v41, I.v42⟩⟩
        · -- operation 4
          simp [hL, Region.binds] at hdep
          have d3 : L 3 = true := by simp [hdep]
          have e3 := I.v3 d3
          refine wpOp_step rfl (fun K' hK => ?_)
          rw [e3]
          go_simp
          exact hK _ _ ⟨_, bit_set hL hsz 4 (by omega), fun jx => if jx = 49 then .bool true else s jx, by first | (simp [frIA7, e3]; done) | (simp [frIA7, e3]; rfl), by simpa using hsz, ⟨I.x, I.bq, I.b9, I.b11, I.v0, I.v1, I.v2, I.v3, fun _ => rfl, I.v5, I.v6, I.v7, I.v8, I.v9, I.v10, I.v11, I.v12, I.v13, I.v14, I.v15, I.v16, I.v17, I.v18, I.v19, I.v20, I.v21, I.v22, I.v23, I.v24, I.v25, I.v26, I.v27, I.v28, I.v29, I.v30, I.v31, I.v32, I.v33, I.v34, I.v35, I.v36, I.v37, I.v38, I.v39, I.v40, I.v41, I.v42⟩⟩
        · -- operation 5
          simp [hL, Region.binds] at hdep
          have d4 : L 4 = true := by simp [hdep]
          have e4 := I.v4 d4
          refine wpOp_step rfl (fun K' hK => ?_)
          rw [e4]
          go_simp
          exact hK _ _ ⟨_, bit_set hL hsz 5 (by omega), fun jx => if jx = 50 then .int .i64 e0 else s jx, by first | (simp [frIA7, e4]; done) | (simp [frIA7, e4]; rfl), by simpa using hsz, ⟨I.x, I.bq, I.b9, I.b11, I.v0, I.v1, I.v2, I.v3, I.v4, fun _ => rfl, I.v6, I.v7, I.v8, I.v9, I.v10, I.v11, I.v12, I.v13, I.v14, I.v15, I.v16, I.v17, I.v18, I.v19, I.v20, I.v21, I.v22, I.v23, I.v24, I.v25, I.v26, I.v27, I.v28, I.v29, I.v30, I.v31, I.v32, I.v33, I.v34, I.v35, I.v36, I.v37, I.v38, I.v39, I.v40, I.v41, I.v42⟩⟩
        · -- operation 6
          simp [hL, Region.binds] at hdep
          have d4 : L 4 = true := by simp [hdep]
          have e4 := I.v4 d4
          refine wpOp_step rfl (fun K' hK => ?_)
          rw [e4]
          go_simp
          exact hK _ _ ⟨_, bit_set hL hsz 6 (by omega), fun jx => if jx = 51 then .int .i64 e0 else s jx, by first | (simp [frIA7, e4]; done) | (simp [frIA7, e4]; rfl), by simpa using hsz, ⟨I.x, I.bq, I.b9, I.b11, I.v0, I.v1, I.v2, I.v3, I.v4, I.v5, fun _ => rfl, I.v7, I.v8, I.v9, I.v10, I.v11, I.v12, I.v13, I.v14, I.v15, I.v16, I.v17, I.v18, I.v19, I.v20, I.v21, I.v22, I.v23, I.v24, I.v25, I.v26, I.v27, I.v28, I.v29, I.v30, I.v31, I.v32, I.v33, I.v34, I.v35, I.v36, I.v37, I.v38, I.v39, I.v40, I.v41, I.v42⟩⟩
        · -- operation 7
          simp [hL, Region.binds] at hdep
          have d5 : L 5 = true := by simp [hdep]
          have d6 : L 6 = true := by simp [hdep]
          have d4 : L 4 = true := by simp [hdep]
          have e5 := I.v5 d5
          have e6 := I.v6 d6
          have e4 := I.v4 d4
          refine wpOp_step rfl (fun K' hK => ?_)
          rw [e5, e6, e4]
          go_simp
          exact hK _ _ ⟨_, bit_set hL hsz 7 (by omega), fun jx => if jx = 52 then .bool true else s jx, by first | (simp [frIA7, e5, e6, e4]; done) | (simp [frIA7, e5, e6, e4]; rfl), by simpa using hsz, ⟨I.x, I.bq, I.b9, I.b11, I.v0, I.v1, I.v2, I.v3, I.v4, I.v5, I.v6, fun _ => rfl, I.v8, I.v9, I.v10, I.v11, I.v12, I.v13, I.v14, I.v15, I.v16, I.v17, I.v18, I.v19, I.v20, I.v21, I.v22, I.v23, I.v24, I.v25, I.v26, I.v27, I.v28, I.v29, I.v30, I.v31, I.v32, I.v33, I.v34, I.v35, I.v36, I.v37, I.v38, I.v39, I.v40, I.v41, I.v42⟩⟩
        · -- operation 8
          simp [hL, Region.binds] at hdep
          have d4 : L 4 = true := by simp [hdep]
          have d7 : L 7 = true := by simp [hdep]
          have e4 := I.v4 d4
          have e7 := I.v7 d7
          refine wpOp_step rfl (fun K' hK => ?_)
          rw [e4, e7]
          go_simp
          exact hK _ _ ⟨_, bit_set hL hsz 8 (by omega), fun jx => if jx = 53 then .bool true else s jx, by first | (simp [frIA7, e4, e7]; done) | (simp [frIA7, e4, e7]; rfl), by simpa using hsz, ⟨I.x, I.bq, I.b9, I.b11, I.v0, I.v1, I.v2, I.v3, I.v4, I.v5, I.v6, I.v7, fun _ => rfl, I.v9, I.v10, I.v11, I.v12, I.v13, I.v14, I.v15, I.v16, I.v17, I.v18, I.v19, I.v20, I.v21, I.v22, I.v23, I.v24, I.v25, I.v26, I.v27, I.v28, I.v29, I.v30, I.v31, I.v32, I.v33, I.v34, I.v35, I.v36, I.v37, I.v38, I.v39, I.v40, I.v41, I.v42⟩⟩
        · -- operation 9
          simp [hL, Region.binds] at hdep
          have d8 : L 8 = true := by simp [hdep]
          have e8 := I.v8 d8
          refine wpOp_step rfl (fun K' hK => ?_)
          rw [e8]
          go_simp
          exact hK _ _ ⟨_, bit_set hL hsz 9 (by omega), fun jx => if jx = 54 then .bool true else s jx, by first | (simp [frIA7, e8]; done) | (simp [frIA7, e8]; rfl), by simpa using hsz, ⟨I.x, I.bq, I.b9, I.b11, I.v0, I.v1, I.v2, I.v3, I.v4, I.v5, I.v6, I.v7, I.v8, fun _ => rfl, I.v10, I.v11, I.v12, I.v13, I.v14, I.v15, I.v16, I.v17, I.v18, I.v19, I.v20, I.v21, I.v22, I.v23, I.v24, I.v25, I.v26, I.v27, I.v28, I.v29, I.v30, I.v31, I.v32, I.v33, I.v34, I.v35, I.v36, I.v37, I.v38, I.v39, I.v40, I.v41, I.v42⟩⟩
        · -- operation 10
          simp [hL, Region.binds] at hdep
          have d9 : L 9 = true := by simp [hdep]
          have e9 := I.v9 d9
          have R1 := Lib.hid I.b9.cell
          have lq := I.b9.lt
          have hc0 : w2.cell? ⟨q9, 0, none⟩ = some (.slice uL U.L.length uL') := R1.out 0
          have hc1 : w2.cell? ⟨q9, 1, none⟩ = some (.slice uD U.dead.length uD') := R1.out 1
          have hc2 : w2.cell? ⟨q9, 2, none⟩ = some (.int .i64 U.last) := R1.out 2
          have hc3 : w2.cell? ⟨q9, 3, none⟩ = some (.int .i64 U.R.proc) := R1.out 3
          have hc4 : w2.cell? ⟨q9, 4, none⟩ = some (.int .i64 U.R.frame) := R1.out 4
          have hc5 : w2.cell? ⟨q9, 5, none⟩ = some (.slice uRe U.R.ready.length uRe') := R1.out 5
          have hc6 : w2.cell? ⟨q9, 6, none⟩ = some (.slice uWa U.R.wait.length uWa') := R1.out 6
          have hc7 : w2.cell? ⟨q9, 7, none⟩ = some (.slice uDu U.R.due.length uDu') := R1.out 7
          have hc8 : w2.cell? ⟨q9, 8, none⟩ = some (.string U.R.out) := R1.out 8
          have hc9 : w2.cell? ⟨q9, 9, none⟩ = some (.string U.R.inp) := R1.out 9
          have hc10 : w2.cell? ⟨q9, 10, none⟩ = some (.int .i64 U.R.how) := R1.out 10
          have hc11 : w2.cell? ⟨q9, 11, none⟩ = some (.int .i64 U.R.exit) := R1.out 11
          have hc12 : w2.cell? ⟨q9, 12, none⟩ = some (.slice uSn U.R.snaps.length uSn') := R1.out 12
          refine wpOp_step rfl (fun K' hK => ?_)
          rw [e9]
          go_simp
          exact hK _ _ ⟨_, bit_set hL hsz 10 (by omega), fun jx => if jx = 55 then .agg #[.slice uL U.L.length uL', .slice uD U.dead.length uD', .int .i64 U.last, .int .i64 U.R.proc, .int .i64 U.R.frame, .slice uRe U.R.ready.length uRe', .slice uWa U.R.wait.length uWa', .slice uDu U.R.due.length uDu', .string U.R.out, .string U.R.inp, .int .i64 U.R.how, .int .i64 U.R.exit, .slice uSn U.R.snaps.length uSn'] else s jx, by first | (simp [frIA7, e9]; done) | (simp [frIA7, e9]; rfl), by simpa using hsz, ⟨I.x, I.bq, I.b9, I.b11, I.v0, I.v1, I.v2, I.v3, I.v4, I.v5, I.v6, I.v7, I.v8, I.v9, fun _ => rfl, I.v11, I.v12, I.v13, I.v14, I.v15, I.v16, I.v17, I.v18, I.v19, I.v20, I.v21, I.v22, I.v23, I.v24, I.v25, I.v26, I.v27, I.v28, I.v29, I.v30, I.v31, I.v32, I.v33, I.v34, I.v35, I.v36, I.v37, I.v38, I.v39, I.v40, I.v41, I.v42⟩⟩
        · -- operation 11
          simp [hL, Region.binds] at hdep
          have d9 : L 9 = true := by simp [hdep]
          have e9 := I.v9 d9
          have R1 := Lib.hid I.b11.cell
          have lq := I.b11.lt
          have hc0 : w2.cell? ⟨q11, 0, none⟩ = some (.slice vL U.L.length vL') := R1.out 0
          have hc1 : w2.cell? ⟨q11, 1, none⟩ = some (.slice vD U.dead.length vD') := R1.out 1
          have hc2 : w2.cell? ⟨q11, 2, none⟩ = some (.int .i64 U.last) := R1.out 2
          have hc3 : w2.cell? ⟨q11, 3, none⟩ = some (.int .i64 U.R.proc) := R1.out 3
          have hc4 : w2.cell? ⟨q11, 4, none⟩ = some (.int .i64 U.R.frame) := R1.out 4
          have hc5 : w2.cell? ⟨q11, 5, none⟩ = some (.slice vRe U.R.ready.length vRe') := R1.out 5
          have hc6 : w2.cell? ⟨q11, 6, none⟩ = some (.slice vWa U.R.wait.length vWa') := R1.out 6
          have hc7 : w2.cell? ⟨q11, 7, none⟩ = some (.slice vDu U.R.due.length vDu') := R1.out 7
          have hc8 : w2.cell? ⟨q11, 8, none⟩ = some (.string U.R.out) := R1.out 8
          have hc9 : w2.cell? ⟨q11, 9, none⟩ = some (.string U.R.inp) := R1.out 9
          have hc10 : w2.cell? ⟨q11, 10, none⟩ = some (.int .i64 U.R.how) := R1.out 10
          have hc11 : w2.cell? ⟨q11, 11, none⟩ = some (.int .i64 U.R.exit) := R1.out 11
          have hc12 : w2.cell? ⟨q11, 12, none⟩ = some (.slice vSn U.R.snaps.length vSn') := R1.out 12
          refine wpOp_step rfl (fun K' hK => ?_)
          rw [e9]
          go_simp
          exact hK _ _ ⟨_, bit_set hL hsz 11 (by omega), fun jx => if jx = 56 then .agg #[.slice vL U.L.length vL', .slice vD U.dead.length vD', .int .i64 U.last, .int .i64 U.R.proc, .int .i64 U.R.frame, .slice vRe U.R.ready.length vRe', .slice vWa U.R.wait.length vWa', .slice vDu U.R.due.length vDu', .string U.R.out, .string U.R.inp, .int .i64 U.R.how, .int .i64 U.R.exit, .slice vSn U.R.snaps.length vSn'] else s jx, by first | (simp [frIA7, e9]; done) | (simp [frIA7, e9]; rfl), by simpa using hsz, ⟨I.x, I.bq, I.b9, I.b11, I.v0, I.v1, I.v2, I.v3, I.v4, I.v5, I.v6, I.v7, I.v8, I.v9, I.v10, fun _ => rfl, I.v12, I.v13, I.v14, I.v15, I.v16, I.v17, I.v18, I.v19, I.v20, I.v21, I.v22, I.v23, I.v24, I.v25, I.v26, I.v27, I.v28, I.v29, I.v30, I.v31, I.v32, I.v33, I.v34, I.v35, I.v36, I.v37, I.v38, I.v39, I.v40, I.v41, I.v42⟩⟩
        · -- operation 12
          simp [hL, Region.binds] at hdep
          have d10 : L 10 = true := by simp [hdep]
          have d11 : L 11 = true := by simp [hdep]
          have d9 : L 9 = true := by simp [hdep]
          have e10 := I.v10 d10
          have e11 := I.v11 d11
          have e9 := I.v9 d9
          refine wpOp_step rfl (fun K' hK => ?_)
          rw [e10, e11, e9]
          go_simp
          refine (CE.out _ I.x).mono ?_
          rintro e w3 ⟨rfl, x3⟩
          have J := I.ext x3
          exact hK _ _ ⟨_, bit_set hL hsz 12 (by omega), fun jx => if jx = 57 then .bool true else s jx, by first | (simp [frIA7, e10, e11, e9]; done) | (simp [frIA7, e10, e11, e9]; rfl), by simpa using hsz, ⟨J.x, J.bq, J.b9, J.b11, J.v0, J.v1, J.v2, J.v3, J.v4, J.v5, J.v6, J.v7, J.v8, J.v9, J.v10, J.v11, fun _ => rfl, J.v13, J.v14, J.v15, J.v16, J.v17, J.v18, J.v19, J.v20, J.v21, J.v22, J.v23, J.v24, J.v25, J.v26, J.v27, J.v28, J.v29, J.v30, J.v31, J.v32, J.v33, J.v34, J.v35, J.v36, J.v37, J.v38, J.v39, J.v40, J.v41, J.v42⟩⟩
        · -- operation 13
          simp [hL, Region.binds] at hdep
          have d9 : L 9 = true := by simp [hdep]
          have d12 : L 12 = true := by simp [hdep]
          have e9 := I.v9 d9
          have e12 := I.v12 d12
          refine wpOp_step rfl (fun K' hK => ?_)
          rw [e9, e12]
          go_simp
          exact hK _ _ ⟨_, bit_set hL hsz 13 (by omega), fun jx => if jx = 58 then .bool true else s jx, by first | (simp [frIA7, e9, e12]; done) | (simp [frIA7, e9, e12]; rfl), by simpa using hsz, ⟨I.x, I.bq, I.b9, I.b11, I.v0, I.v1, I.v2, I.v3, I.v4, I.v5, I.v6, I.v7, I.v8, I.v9, I.v10, I.v11, I.v12, fun _ => rfl, I.v14, I.v15, I.v16, I.v17, I.v18, I.v19, I.v20, I.v21, I.v22, I.v23, I.v24, I.v25, I.v26, I.v27, I.v28, I.v29, I.v30, I.v31, I.v32, I.v33, I.v34, I.v35, I.v36, I.v37, I.v38, I.v39, I.v40, I.v41, I.v42⟩⟩
        · -- operation 14
          simp [hL, Region.binds] at hdep
          have d13 : L 13 = true := by simp [hdep]
          have e13 := I.v13 d13
          refine wpOp_step rfl (fun K' hK => ?_)
          rw [e13]
          go_simp
          exact hK _ _ ⟨_, bit_set hL hsz 14 (by omega), fun jx => if jx = 59 then .bool true else s jx, by first | (simp [frIA7, e13]; done) | (simp [frIA7, e13]; rfl), by simpa using hsz, ⟨I.x, I.bq, I.b9, I.b11, I.v0, I.v1, I.v2, I.v3, I.v4, I.v5, I.v6, I.v7, I.v8, I.v9, I.v10, I.v11, I.v12, I.v13, fun _ => rfl, I.v15, I.v16, I.v17, I.v18, I.v19, I.v20, I.v21, I.v22, I.v23, I.v24, I.v25, I.v26, I.v27, I.v28, I.v29, I.v30, I.v31, I.v32, I.v33, I.v34, I.v35, I.v36, I.v37, I.v38, I.v39, I.v40, I.v41, I.v42⟩⟩
        · -- operation 15
          simp [hL, Region.binds] at hdep
          have d14 : L 14 = true := by simp [hdep]
          have e14 := I.v14 d14
          refine wpOp_step rfl (fun K' hK => ?_)
          rw [e14]
          go_simp
          exact hK _ _ ⟨_, bit_set hL hsz 15 (by omega), fun jx => if jx = 60 then .pointer (some ⟨q9, 1, none⟩) else s jx, by first | (simp [frIA7, e14]; done) | (simp [frIA7, e14]; rfl), by simpa using hsz, ⟨I.x, I.bq, I.b9, I.b11, I.v0, I.v1, I.v2, I.v3, I.v4, I.v5, I.v6, I.v7, I.v8, I.v9, I.v10, I.v11, I.v12, I.v13, I.v14, fun _ => rfl, I.v16, I.v17, I.v18, I.v19, I.v20, I.v21, I.v22, I.v23, I.v24, I.v25, I.v26, I.v27, I.v28, I.v29, I.v30, I.v31, I.v32, I.v33, I.v34, I.v35, I.v36, I.v37, I.v38, I.v39, I.v40, I.v41, I.v42⟩⟩
        · -- operation 16
          simp [hL, Region.binds] at hdep
          have d15 : L 15 = true := by simp [hdep]
          have d14 : L 14 = true := by simp [hdep]
          have e15 := I.v15 d15
          have e14 := I.v14 d14
          have R1 := Lib.hid I.b9.cell
          have lq := I.b9.lt
          have hc1 : w2.cell? ⟨q9, 1, none⟩ = some (.slice uD U.dead.length uD') := R1.out 1
          refine wpOp_step rfl (fun K' hK => ?_)
          rw [e15, e14]
          go_simp
          exact hK _ _ ⟨_, bit_set hL hsz 16 (by omega), fun jx => if jx = 61 then .slice uD U.dead.length uD' else s jx, by first | (simp [frIA7, e15, e14]; done) | (simp [frIA7, e15, e14]; rfl), by simpa using hsz, ⟨I.x, I.bq, I.b9, I.b11, I.v0, I.v1, I.v2, I.v3, I.v4, I.v5, I.v6, I.v7, I.v8, I.v9, I.v10, I.v11, I.v12, I.v13, I.v14, I.v15, fun _ => rfl, I.v17, I.v18, I.v19, I.v20, I.v21, I.v22, I.v23, I.v24, I.v25, I.v26, I.v27, I.v28, I.v29, I.v30, I.v31, I.v32, I.v33, I.v34, I.v35, I.v36, I.v37, I.v38, I.v39, I.v40, I.v41, I.v42⟩⟩
        · -- operation 17
          simp [hL, Region.binds] at hdep
          have d16 : L 16 = true := by simp [hdep]
          have d14 : L 14 = true := by simp [hdep]
          have e16 := I.v16 d16
          have e14 := I.v14 d14
          have hd0 := HD0.out
          refine wpOp_step rfl (fun K' hK => ?_)
          rw [e16, e14]
          go_simp
          exact hK _ _ ⟨_, bit_set hL hsz 17 (by omega), fun jx => if jx = 62 then .int .i64 0 else s jx, by first | (simp [frIA7, e16, e14, hd0]; done) | (simp [frIA7, e16, e14, hd0]; rfl), by simpa using hsz, ⟨I.x, I.bq, I.b9, I.b11, I.v0, I.v1, I.v2, I.v3, I.v4, I.v5, I.v6, I.v7, I.v8, I.v9, I.v10, I.v11, I.v12, I.v13, I.v14, I.v15, I.v16, fun _ => rfl, I.v18, I.v19, I.v20, I.v21, I.v22, I.v23, I.v24, I.v25, I.v26, I.v27, I.v28, I.v29, I.v30, I.v31, I.v32, I.v33, I.v34, I.v35, I.v36, I.v37, I.v38, I.v39, I.v40, I.v41, I.v42⟩⟩
        · -- operation 18
          simp [hL, Region.binds] at hdep
          have d17 : L 17 = true := by simp [hdep]
          have d14 : L 14 = true := by simp [hdep]
          have e17 := I.v17 d17
          have e14 := I.v14 d14
          refine wpOp_step rfl (fun K' hK => ?_)
          rw [e17, e14]
          go_simp
          exact hK _ _ ⟨_, bit_set hL hsz 18 (by omega), fun jx => if jx = 63 then .bool true else s jx, by first | (simp [frIA7, e17, e14]; done) | (simp [frIA7, e17, e14]; rfl), by simpa using hsz, ⟨I.x, I.bq, I.b9, I.b11, I.v0, I.v1, I.v2, I.v3, I.v4, I.v5, I.v6, I.v7, I.v8, I.v9, I.v10, I.v11, I.v12, I.v13, I.v14, I.v15, I.v16, I.v17, fun _ => rfl, I.v19, I.v20, I.v21, I.v22, I.v23, I.v24, I.v25, I.v26, I.v27, I.v28, I.v29, I.v30, I.v31, I.v32, I.v33, I.v34, I.v35, I.v36, I.v37, I.v38, I.v39, I.v40, I.v41, I.v42⟩⟩
        · -- operation 19
          simp [hL, Region.binds] at hdep
          have d14 : L 14 = true := by simp [hdep]
          have d18 : L 18 = true := by simp [hdep]
          have e14 := I.v14 d14
          have e18 := I.v18 d18
          refine wpOp_step rfl (fun K' hK => ?_)
          rw [e14, e18]
          go_simp
          exact hK _ _ ⟨_, bit_set hL hsz 19 (by omega), fun jx => if jx = 64 then .bool true else s jx, by first | (simp [frIA7, e14, e18]; done) | (simp [frIA7, e14, e18]; rfl), by simpa using hsz, ⟨I.x, I.bq, I.b9, I.b11, I.v0, I.v1, I.v2, I.v3, I.v4, I.v5, I.v6, I.v7, I.v8, I.v9, I.v10, I.v11, I.v12, I.v13, I.v14, I.v15, I.v16, I.v17, I.v18, fun _ => rfl, I.v20, I.v21, I.v22, I.v23, I.v24, I.v25, I.v26, I.v27, I.v28, I.v29, I.v30, I.v31, I.v32, I.v33, I.v34, I.v35, I.v36, I.v37, I.v38, I.v39, I.v40, I.v41, I.v42⟩⟩
        · -- operation 20
          simp [hL, Region.binds] at hdep
          have d19 : L 19 = true := by simp [hdep]
          have e19 := I.v19 d19
          refine wpOp_step rfl (fun K' hK => ?_)
          rw [e19]
          go_simp
          exact hK _ _ ⟨_, bit_set hL hsz 20 (by omega), fun jx => if jx = 65 then .bool true else s jx, by first | (simp [frIA7, e19]; done) | (simp [frIA7, e19]; rfl), by simpa using hsz, ⟨I.x, I.bq, I.b9, I.b11, I.v0, I.v1, I.v2, I.v3, I.v4, I.v5, I.v6, I.v7, I.v8, I.v9, I.v10, I.v11, I.v12, I.v13, I.v14, I.v15, I.v16, I.v17, I.v18, I.v19, fun _ => rfl, I.v21, I.v22, I.v23, I.v24, I.v25, I.v26, I.v27, I.v28, I.v29, I.v30, I.v31, I.v32, I.v33, I.v34, I.v35, I.v36, I.v37, I.v38, I.v39, I.v40, I.v41, I.v42⟩⟩
        · -- operation 21
          simp [hL, Region.binds] at hdep
          have d20 : L 20 = true := by simp [hdep]
          have e20 := I.v20 d20
          refine wpOp_step rfl (fun K' hK => ?_)
          rw [e20]
          go_simp
          exact hK _ _ ⟨_, bit_set hL hsz 21 (by omega), fun jx => if jx = 66 then .int .i64 g0 else s jx, by first | (simp [frIA7, e20]; done) | (simp [frIA7, e20]; rfl), by simpa using hsz, ⟨I.x, I.bq, I.b9, I.b11, I.v0, I.v1, I.v2, I.v3, I.v4, I.v5, I.v6, I.v7, I.v8, I.v9, I.v10, I.v11, I.v12, I.v13, I.v14, I.v15, I.v16, I.v17, I.v18, I.v19, I.v20, fun _ => rfl, I.v22, I.v23, I.v24, I.v25, I.v26, I.v27, I.v28, I.v29, I.v30, I.v31, I.v32, I.v33, I.v34, I.v35, I.v36, I.v37, I.v38, I.v39, I.v40, I.v41, I.v42⟩⟩
        · -- operation 22
          simp [hL, Region.binds] at hdep
          have d20 : L 20 = true := by simp [hdep]
          have e20 := I.v20 d20
          refine wpOp_step rfl (fun K' hK => ?_)
          rw [e20]
          go_simp
          exact hK _ _ ⟨_, bit_set hL hsz 22 (by omega), fun jx => if jx = 67 then .int .i64 g0 else s jx, by first | (simp [frIA7, e20]; done) | (simp [frIA7, e20]; rfl), by simpa using hsz, ⟨I.x, I.bq, I.b9, I.b11, I.v0, I.v1, I.v2, I.v3, I.v4, I.v5, I.v6, I.v7, I.v8, I.v9, I.v10, I.v11, I.v12, I.v13, I.v14, I.v15, I.v16, I.v17, I.v18, I.v19, I.v20, I.v21, fun _ => rfl, I.v23, I.v24, I.v25, I.v26, I.v27, I.v28, I.v29, I.v30, I.v31, I.v32, I.v33, I.v34, I.v35, I.v36, I.v37, I.v38, I.v39, I.v40, I.v41, I.v42⟩⟩
        · -- operation 23
          simp [hL, Region.binds] at hdep
          have d21 : L 21 = true := by simp [hdep]
          have d22 : L 22 = true := by simp [hdep]
          have d20 : L 20 = true := by simp [hdep]
          have e21 := I.v21 d21
          have e22 := I.v22 d22
          have e20 := I.v20 d20
          refine wpOp_step rfl (fun K' hK => ?_)
          rw [e21, e22, e20]
          go_simp
          exact hK _ _ ⟨_, bit_set hL hsz 23 (by omega), fun jx => if jx = 68 then .bool true else s jx, by first | (simp [frIA7, e21, e22, e20]; done) | (simp [frIA7, e21, e22, e20]; rfl), by simpa using hsz, ⟨I.x, I.bq, I.b9, I.b11, I.v0, I.v1, I.v2, I.v3, I.v4, I.v5, I.v6, I.v7, I.v8, I.v9, I.v10, I.v11, I.v12, I.v13, I.v14, I.v15, I.v16, I.v17, I.v18, I.v19, I.v20, I.v21, I.v22, fun _ => rfl, I.v24, I.v25, I.v26, I.v27, I.v28, I.v29, I.v30, I.v31, I.v32, I.v33, I.v34, I.v35, I.v36, I.v37, I.v38, I.v39, I.v40, I.v41, I.v42⟩⟩
        · -- operation 24
          simp [hL, Region.binds] at hdep
          have d20 : L 20 = true := by simp [hdep]
          have d23 : L 23 = true := by simp [hdep]
          have e20 := I.v20 d20
          have e23 := I.v23 d23
          refine wpOp_step rfl (fun K' hK => ?_)
          rw [e20, e23]
          go_simp
          exact hK _ _ ⟨_, bit_set hL hsz 24 (by omega), fun jx => if jx = 69 then .bool true else s jx, by first | (simp [frIA7, e20, e23]; done) | (simp [frIA7, e20, e23]; rfl), by simpa using hsz, ⟨I.x, I.bq, I.b9, I.b11, I.v0, I.v1, I.v2, I.v3, I.v4, I.v5, I.v6, I.v7, I.v8, I.v9, I.v10, I.v11, I.v12, I.v13, I.v14, I.v15, I.v16, I.v17, I.v18, I.v19, I.v20, I.v21, I.v22, I.v23, fun _ => rfl, I.v25, I.v26, I.v27, I.v28, I.v29, I.v30, I.v31, I.v32, I.v33, I.v34, I.v35, I.v36, I.v37, I.v38, I.v39, I.v40, I.v41, I.v42⟩⟩
        · -- operation 25
          simp [hL, Region.binds] at hdep
          have d24 : L 24 = true := by simp [hdep]
          have e24 := I.v24 d24
          refine wpOp_step rfl (fun K' hK => ?_)
          rw [e24]
          go_simp
          exact hK _ _ ⟨_, bit_set hL hsz 25 (by omega), fun jx => if jx = 70 then .bool true else s jx, by first | (simp [frIA7, e24]; done) | (simp [frIA7, e24]; rfl), by simpa using hsz, ⟨I.x, I.bq, I.b9, I.b11, I.v0, I.v1, I.v2, I.v3, I.v4, I.v5, I.v6, I.v7, I.v8, I.v9, I.v10, I.v11, I.v12, I.v13, I.v14, I.v15, I.v16, I.v17, I.v18, I.v19, I.v20, I.v21, I.v22, I.v23, I.v24, fun _ => rfl, I.v26, I.v27, I.v28, I.v29, I.v30, I.v31, I.v32, I.v33, I.v34, I.v35, I.v36, I.v37, I.v38, I.v39, I.v40, I.v41, I.v42⟩⟩
        · -- operation 26
          simp [hL, Region.binds] at hdep
          have d25 : L 25 = true := by simp [hdep]
          have e25 := I.v25 d25
          have R1 := Lib.hid I.bq.cell
          have lq := I.bq.lt
          have hc0 : w2.cell? ⟨q, 0, none⟩ = some (.slice aL W.L.length aL') := R1.out 0
          have hc1 : w2.cell? ⟨q, 1, none⟩ = some (.slice aD W.dead.length aD') := R1.out 1
          have hc2 : w2.cell? ⟨q, 2, none⟩ = some (.int .i64 W.last) := R1.out 2
          have hc3 : w2.cell? ⟨q, 3, none⟩ = some (.int .i64 W.R.proc) := R1.out 3
          have hc4 : w2.cell? ⟨q, 4, none⟩ = some (.int .i64 W.R.frame) := R1.out 4
          have hc5 : w2.cell? ⟨q, 5, none⟩ = some (.slice aRe W.R.ready.length aRe') := R1.out 5
          have hc6 : w2.cell? ⟨q, 6, none⟩ = some (.slice aWa W.R.wait.length aWa') := R1.out 6
          have hc7 : w2.cell? ⟨q, 7, none⟩ = some (.slice aDu W.R.due.length aDu') := R1.out 7
          have hc8 : w2.cell? ⟨q, 8, none⟩ = some (.string W.R.out) := R1.out 8
          have hc9 : w2.cell? ⟨q, 9, none⟩ = some (.string W.R.inp) := R1.out 9
          have hc10 : w2.cell? ⟨q, 10, none⟩ = some (.int .i64 W.R.how) := R1.out 10
          have hc11 : w2.cell? ⟨q, 11, none⟩ = some (.int .i64 W.R.exit) := R1.out 11
          have hc12 : w2.cell? ⟨q, 12, none⟩ = some (.slice aSn W.R.snaps.length aSn') := R1.out 12
          refine wpOp_step rfl (fun K' hK => ?_)
          rw [e25]
          go_simp
          exact hK _ _ ⟨_, bit_set hL hsz 26 (by omega), fun jx => if jx = 71 then .agg #[.slice aL W.L.length aL', .slice aD W.dead.length aD', .int .i64 W.last, .int .i64 W.R.proc, .int .i64 W.R.frame, .slice aRe W.R.ready.length aRe', .slice aWa W.R.wait.length aWa', .slice aDu W.R.due.length aDu', .string W.R.out, .string W.R.inp, .int .i64 W.R.how, .int .i64 W.R.exit, .slice aSn W.R.snaps.length aSn'] else s jx, by first | (simp [frIA7, e25]; done) | (simp [frIA7, e25]; rfl), by simpa using hsz, ⟨I.x, I.bq, I.b9, I.b11, I.v0, I.v1, I.v2, I.v3, I.v4, I.v5, I.v6, I.v7, I.v8, I.v9, I.v10, I.v11, I.v12, I.v13, I.v14, I.v15, I.v16, I.v17, I.v18, I.v19, I.v20, I.v21, I.v22, I.v23, I.v24, I.v25, fun _ => rfl, I.v27, I.v28, I.v29, I.v30, I.v31, I.v32, I.v33, I.v34, I.v35, I.v36, I.v37, I.v38, I.v39, I.v40, I.v41, I.v42⟩⟩
        · -- operation 27
          simp [hL, Region.binds] at hdep
          have d26 : L 26 = true := by simp [hdep]
          have d25 : L 25 = true := by simp [hdep]
          have e26 := I.v26 d26
          have e25 := I.v25 d25
          refine wpOp_step rfl (fun K' hK => ?_)
          rw [e26, e25]
          go_simp
          refine (CWo.out _ I.x).mono ?_
          rintro e w3 ⟨x, rfl, hx, x3⟩
          have J := I.ext x3
          exact hK _ _ ⟨_, bit_set hL hsz 27 (by omega), fun jx => if jx = 72 then .agg (cellsW W x) else s jx, by first | (simp [frIA7, e26, e25, cellsW]; done) | (simp [frIA7, e26, e25, cellsW]; rfl), by simpa using hsz, ⟨J.x, J.bq, J.b9, J.b11, J.v0, J.v1, J.v2, J.v3, J.v4, J.v5, J.v6, J.v7, J.v8, J.v9, J.v10, J.v11, J.v12, J.v13, J.v14, J.v15, J.v16, J.v17, J.v18, J.v19, J.v20, J.v21, J.v22, J.v23, J.v24, J.v25, J.v26, (fun _ => ⟨x, rfl, hx⟩), J.v28, J.v29, J.v30, J.v31, J.v32, J.v33, J.v34, J.v35, J.v36, J.v37, J.v38, J.v39, J.v40, J.v41, J.v42⟩⟩
        · -- operation 28
          simp [hL, Region.binds] at hdep
          have d27 : L 27 = true := by simp [hdep]
          have d25 : L 25 = true := by simp [hdep]
          obtain ⟨x27, e27, h27⟩ := I.v27 d27
          have e25 := I.v25 d25
          refine wpOp_step rfl (fun K' hK => ?_)
          rw [e27, e25]
          unfold cellsW
          go_simp
          refine (CK1 h27).mono ?_
          rintro e w3 ⟨rfl, x3⟩
          have J := I.ext x3
          exact hK _ _ ⟨_, bit_set hL hsz 28 (by omega), fun jx => if jx = 73 then .bool cb else s jx, by first | (simp [frIA7, e27, e25, cellsW]; done) | (simp [frIA7, e27, e25, cellsW]; rfl), by simpa using hsz, ⟨J.x, J.bq, J.b9, J.b11, J.v0, J.v1, J.v2, J.v3, J.v4, J.v5, J.v6, J.v7, J.v8, J.v9, J.v10, J.v11, J.v12, J.v13, J.v14, J.v15, J.v16, J.v17, J.v18, J.v19, J.v20, J.v21, J.v22, J.v23, J.v24, J.v25, J.v26, J.v27, fun _ => rfl, J.v29, J.v30, J.v31, J.v32, J.v33, J.v34, J.v35, J.v36, J.v37, J.v38, J.v39, J.v40, J.v41, J.v42⟩⟩
        · -- operation 29
          simp [hL, Region.binds] at hdep
          have d25 : L 25 = true := by simp [hdep]
          have e25 := I.v25 d25
          have R1 := Lib.hid I.bq.cell
          have lq := I.bq.lt
          have hc0 : w2.cell? ⟨q, 0, none⟩ = some (.slice aL W.L.length aL') := R1.out 0
          have hc1 : w2.cell? ⟨q, 1, none⟩ = some (.slice aD W.dead.length aD') := R1.out 1
          have hc2 : w2.cell? ⟨q, 2, none⟩ = some (.int .i64 W.last) := R1.out 2
          have hc3 : w2.cell? ⟨q, 3, none⟩ = some (.int .i64 W.R.proc) := R1.out 3
          have hc4 : w2.cell? ⟨q, 4, none⟩ = some (.int .i64 W.R.frame) := R1.out 4
          have hc5 : w2.cell? ⟨q, 5, none⟩ = some (.slice aRe W.R.ready.length aRe') := R1.out 5
          have hc6 : w2.cell? ⟨q, 6, none⟩ = some (.slice aWa W.R.wait.length aWa') := R1.out 6
          have hc7 : w2.cell? ⟨q, 7, none⟩ = some (.slice aDu W.R.due.length aDu') := R1.out 7
          have hc8 : w2.cell? ⟨q, 8, none⟩ = some (.string W.R.out) := R1.out 8
          have hc9 : w2.cell? ⟨q, 9, none⟩ = some (.string W.R.inp) := R1.out 9
          have hc10 : w2.cell? ⟨q, 10, none⟩ = some (.int .i64 W.R.how) := R1.out 10
          have hc11 : w2.cell? ⟨q, 11, none⟩ = some (.int .i64 W.R.exit) := R1.out 11
          have hc12 : w2.cell? ⟨q, 12, none⟩ = some (.slice aSn W.R.snaps.length aSn') := R1.out 12
          refine wpOp_step rfl (fun K' hK => ?_)
          rw [e25]
          go_simp
          exact hK _ _ ⟨_, bit_set hL hsz 29 (by omega), fun jx => if jx = 74 then .agg #[.slice aL W.L.length aL', .slice aD W.dead.length aD', .int .i64 W.last, .int .i64 W.R.proc, .int .i64 W.R.frame, .slice aRe W.R.ready.length aRe', .slice aWa W.R.wait.length aWa', .slice aDu W.R.due.length aDu', .string W.R.out, .string W.R.inp, .int .i64 W.R.how, .int .i64 W.R.exit, .slice aSn W.R.snaps.length aSn'] else s jx, by first | (simp [frIA7, e25]; done) | (simp [frIA7, e25]; rfl), by simpa using hsz, ⟨I.x, I.bq, I.b9, I.b11, I.v0, I.v1, I.v2, I.v3, I.v4, I.v5, I.v6, I.v7, I.v8, I.v9, I.v10, I.v11, I.v12, I.v13, I.v14, I.v15, I.v16, I.v17, I.v18, I.v19, I.v20, I.v21, I.v22, I.v23, I.v24, I.v25, I.v26, I.v27, I.v28, fun _ => rfl, I.v30, I.v31, I.v32, I.v33, I.v34, I.v35, I.v36, I.v37, I.v38, I.v39, I.v40, I.v41, I.v42⟩⟩
        · -- operation 30
          simp [hL, Region.binds] at hdep
          have d29 : L 29 = true := by simp [hdep]
          have d25 : L 25 = true := by simp [hdep]
          have e29 := I.v29 d29
          have e25 := I.v25 d25
          refine wpOp_step rfl (fun K' hK => ?_)
          rw [e29, e25]
          go_simp
          refine (CK2.out _ I.x).mono ?_
          rintro e w3 ⟨rfl, x3⟩
          have J := I.ext x3
          exact hK _ _ ⟨_, bit_set hL hsz 30 (by omega), fun jx => if jx = 75 then .bool cb else s jx, by first | (simp [frIA7, e29, e25]; done) | (simp [frIA7, e29, e25]; rfl), by simpa using hsz, ⟨J.x, J.bq, J.b9, J.b11, J.v0, J.v1, J.v2, J.v3, J.v4, J.v5, J.v6, J.v7, J.v8, J.v9, J.v10, J.v11, J.v12, J.v13, J.v14, J.v15, J.v16, J.v17, J.v18, J.v19, J.v20, J.v21, J.v22, J.v23, J.v24, J.v25, J.v26, J.v27, J.v28, J.v29, fun _ => rfl, J.v31, J.v32, J.v33, J.v34, J.v35, J.v36, J.v37, J.v38, J.v39, J.v40, J.v41, J.v42⟩⟩
        · -- operation 31
          simp [hL, Region.binds] at hdep
          have d28 : L 28 = true := by simp [hdep]
          have d30 : L 30 = true := by simp [hdep]
          have d25 : L 25 = true := by simp [hdep]
          have e28 := I.v28 d28
          have e30 := I.v30 d30
          have e25 := I.v25 d25
          refine wpOp_step rfl (fun K' hK => ?_)
          rw [e28, e30, e25]
          go_simp
          exact hK _ _ ⟨_, bit_set hL hsz 31 (by omega), fun jx => if jx = 76 then .bool true else s jx, by first | (simp [frIA7, e28, e30, e25]; done) | (simp [frIA7, e28, e30, e25]; rfl), by simpa using hsz, ⟨I.x, I.bq, I.b9, I.b11, I.v0, I.v1, I.v2, I.v3, I.v4, I.v5, I.v6, I.v7, I.v8, I.v9, I.v10, I.v11, I.v12, I.v13, I.v14, I.v15, I.v16, I.v17, I.v18, I.v19, I.v20, I.v21, I.v22, I.v23, I.v24, I.v25, I.v26, I.v27, I.v28, I.v29, I.v30, fun _ => rfl, I.v32, I.v33, I.v34, I.v35, I.v36, I.v37, I.v38, I.v39, I.v40, I.v41, I.v42⟩⟩
        · -- operation 32
          simp [hL, Region.binds] at hdep
          have d25 : L 25 = true := by simp [hdep]
          have d31 : L 31 = true := by simp [hdep]
          have e25 := I.v25 d25
          have e31 := I.v31 d31
          refine wpOp_step rfl (fun K' hK => ?_)
          rw [e25, e31]
          go_simp
          exact hK _ _ ⟨_, bit_set hL hsz 32 (by omega), fun jx => if jx = 77 then .bool true else s jx, by first | (simp [frIA7, e25, e31]; done) | (simp [frIA7, e25, e31]; rfl), by simpa using hsz, ⟨I.x, I.bq, I.b9, I.b11, I.v0, I.v1, I.v2, I.v3, I.v4, I.v5, I.v6, I.v7, I.v8, I.v9, I.v10, I.v11, I.v12, I.v13, I.v14, I.v15, I.v16, I.v17, I.v18, I.v19, I.v20, I.v21, I.v22, I.v23, I.v24, I.v25, I.v26, I.v27, I.v28, I.v29, I.v30, I.v31, fun _ => rfl, I.v33, I.v34, I.v35, I.v36, I.v37, I.v38, I.v39, I.v40, I.v41, I.v42⟩⟩
        · -- operation 33
          simp [hL, Region.binds] at hdep
          have d32 : L 32 = true := by simp [hdep]
          have e32 := I.v32 d32
          refine wpOp_step rfl (fun K' hK => ?_)
          rw [e32]
          go_simp
          exact hK _ _ ⟨_, bit_set hL hsz 33 (by omega), fun jx => if jx = 78 then .bool true else s jx, by first | (simp [frIA7, e32]; done) | (simp [frIA7, e32]; rfl), by simpa using hsz, ⟨I.x, I.bq, I.b9, I.b11, I.v0, I.v1, I.v2, I.v3, I.v4, I.v5, I.v6, I.v7, I.v8, I.v9, I.v10, I.v11, I.v12, I.v13, I.v14, I.v15, I.v16, I.v17, I.v18, I.v19, I.v20, I.v21, I.v22, I.v23, I.v24, I.v25, I.v26, I.v27, I.v28, I.v29, I.v30, I.v31, I.v32, fun _ => rfl, I.v34, I.v35, I.v36, I.v37, I.v38, I.v39, I.v40, I.v41, I.v42⟩⟩
        · -- operation 34
          simp [hL, Region.binds] at hdep
          have d33 : L 33 = true := by simp [hdep]
          have e33 := I.v33 d33
          have R1 := Lib.hid I.bq.cell
          have lq := I.bq.lt
          have hc0 : w2.cell? ⟨q, 0, none⟩ = some (.slice aL W.L.length aL') := R1.out 0
          have hc1 : w2.cell? ⟨q, 1, none⟩ = some (.slice aD W.dead.length aD') := R1.out 1
          have hc2 : w2.cell? ⟨q, 2, none⟩ = some (.int .i64 W.last) := R1.out 2
          have hc3 : w2.cell? ⟨q, 3, none⟩ = some (.int .i64 W.R.proc) := R1.out 3
          have hc4 : w2.cell? ⟨q, 4, none⟩ = some (.int .i64 W.R.frame) := R1.out 4
          have hc5 : w2.cell? ⟨q, 5, none⟩ = some (.slice aRe W.R.ready.length aRe') := R1.out 5
          have hc6 : w2.cell? ⟨q, 6, none⟩ = some (.slice aWa W.R.wait.length aWa') := R1.out 6
          have hc7 : w2.cell? ⟨q, 7, none⟩ = some (.slice aDu W.R.due.length aDu') := R1.out 7
          have hc8 : w2.cell? ⟨q, 8, none⟩ = some (.string W.R.out) := R1.out 8
          have hc9 : w2.cell? ⟨q, 9, none⟩ = some (.string W.R.inp) := R1.out 9
          have hc10 : w2.cell? ⟨q, 10, none⟩ = some (.int .i64 W.R.how) := R1.out 10
          have hc11 : w2.cell? ⟨q, 11, none⟩ = some (.int .i64 W.R.exit) := R1.out 11
          have hc12 : w2.cell? ⟨q, 12, none⟩ = some (.slice aSn W.R.snaps.length aSn') := R1.out 12
          refine wpOp_step rfl (fun K' hK => ?_)
          rw [e33]
          go_simp
          exact hK _ _ ⟨_, bit_set hL hsz 34 (by omega), fun jx => if jx = 79 then .agg #[.slice aL W.L.length aL', .slice aD W.dead.length aD', .int .i64 W.last, .int .i64 W.R.proc, .int .i64 W.R.frame, .slice aRe W.R.ready.length aRe', .slice aWa W.R.wait.length aWa', .slice aDu W.R.due.length aDu', .string W.R.out, .string W.R.inp, .int .i64 W.R.how, .int .i64 W.R.exit, .slice aSn W.R.snaps.length aSn'] else s jx, by first | (simp [frIA7, e33]; done) | (simp [frIA7, e33]; rfl), by simpa using hsz, ⟨I.x, I.bq, I.b9, I.b11, I.v0, I.v1, I.v2, I.v3, I.v4, I.v5, I.v6, I.v7, I.v8, I.v9, I.v10, I.v11, I.v12, I.v13, I.v14, I.v15, I.v16, I.v17, I.v18, I.v19, I.v20, I.v21, I.v22, I.v23, I.v24, I.v25, I.v26, I.v27, I.v28, I.v29, I.v30, I.v31, I.v32, I.v33, fun _ => rfl, I.v35, I.v36, I.v37, I.v38, I.v39, I.v40, I.v41, I.v42⟩⟩
        · -- operation 35
          simp [hL, Region.binds] at hdep
          have d34 : L 34 = true := by simp [hdep]
          have d33 : L 33 = true := by simp [hdep]
          have e34 := I.v34 d34
          have e33 := I.v33 d33
          refine wpOp_step rfl (fun K' hK => ?_)
          rw [e34, e33]
          go_simp
          refine (CCo.out _ I.x).mono ?_
          rintro e w3 ⟨x, rfl, hx, x3⟩
          have J := I.ext x3
          exact hK _ _ ⟨_, bit_set hL hsz 35 (by omega), fun jx => if jx = 80 then .agg (cellsW W x) else s jx, by first | (simp [frIA7, e34, e33, cellsW]; done) | (simp [frIA7, e34, e33, cellsW]; rfl), by simpa using hsz, ⟨J.x, J.bq, J.b9, J.b11, J.v0, J.v1, J.v2, J.v3, J.v4, J.v5, J.v6, J.v7, J.v8, J.v9, J.v10, J.v11, J.v12, J.v13, J.v14, J.v15, J.v16, J.v17, J.v18, J.v19, J.v20, J.v21, J.v22, J.v23, J.v24, J.v25, J.v26, J.v27, J.v28, J.v29, J.v30, J.v31, J.v32, J.v33, J.v34, (fun _ => ⟨x, rfl, hx⟩), J.v36, J.v37, J.v38, J.v39, J.v40, J.v41, J.v42⟩⟩
        · -- operation 36
          simp [hL, Region.binds] at hdep
          have d33 : L 33 = true := by simp [hdep]
          have e33 := I.v33 d33
          have R1 := Lib.hid I.bq.cell
          have lq := I.bq.lt
          have hc0 : w2.cell? ⟨q, 0, none⟩ = some (.slice aL W.L.length aL') := R1.out 0
          have hc1 : w2.cell? ⟨q, 1, none⟩ = some (.slice aD W.dead.length aD') := R1.out 1
          have hc2 : w2.cell? ⟨q, 2, none⟩ = some (.int .i64 W.last) := R1.out 2
          have hc3 : w2.cell? ⟨q, 3, none⟩ = some (.int .i64 W.R.proc) := R1.out 3
          have hc4 : w2.cell? ⟨q, 4, none⟩ = some (.int .i64 W.R.frame) := R1.out 4
          have hc5 : w2.cell? ⟨q, 5, none⟩ = some (.slice aRe W.R.ready.length aRe') := R1.out 5
          have hc6 : w2.cell? ⟨q, 6, none⟩ = some (.slice aWa W.R.wait.length aWa') := R1.out 6
          have hc7 : w2.cell? ⟨q, 7, none⟩ = some (.slice aDu W.R.due.length aDu') := R1.out 7
          have hc8 : w2.cell? ⟨q, 8, none⟩ = some (.string W.R.out) := R1.out 8
          have hc9 : w2.cell? ⟨q, 9, none⟩ = some (.string W.R.inp) := R1.out 9
          have hc10 : w2.cell? ⟨q, 10, none⟩ = some (.int .i64 W.R.how) := R1.out 10
          have hc11 : w2.cell? ⟨q, 11, none⟩ = some (.int .i64 W.R.exit) := R1.out 11
          have hc12 : w2.cell? ⟨q, 12, none⟩ = some (.slice aSn W.R.snaps.length aSn') := R1.out 12
          refine wpOp_step rfl (fun K' hK => ?_)
          rw [e33]
          go_simp
          exact hK _ _ ⟨_, bit_set hL hsz 36 (by omega), fun jx => if jx = 81 then .agg #[.slice aL W.L.length aL', .slice aD W.dead.length aD', .int .i64 W.last, .int .i64 W.R.proc, .int .i64 W.R.frame, .slice aRe W.R.ready.length aRe', .slice aWa W.R.wait.length aWa', .slice aDu W.R.due.length aDu', .string W.R.out, .string W.R.inp, .int .i64 W.R.how, .int .i64 W.R.exit, .slice aSn W.R.snaps.length aSn'] else s jx, by first | (simp [frIA7, e33]; done) | (simp [frIA7, e33]; rfl), by simpa using hsz, ⟨I.x, I.bq, I.b9, I.b11, I.v0, I.v1, I.v2, I.v3, I.v4, I.v5, I.v6, I.v7, I.v8, I.v9, I.v10, I.v11, I.v12, I.v13, I.v14, I.v15, I.v16, I.v17, I.v18, I.v19, I.v20, I.v21, I.v22, I.v23, I.v24, I.v25, I.v26, I.v27, I.v28, I.v29, I.v30, I.v31, I.v32, I.v33, I.v34, I.v35, fun _ => rfl, I.v37, I.v38, I.v39, I.v40, I.v41, I.v42⟩⟩
        · -- operation 37
          simp [hL, Region.binds] at hdep
          have d35 : L 35 = true := by simp [hdep]
          have d36 : L 36 = true := by simp [hdep]
          have d33 : L 33 = true := by simp [hdep]
          obtain ⟨x35, e35, h35⟩ := I.v35 d35
          have e36 := I.v36 d36
          have e33 := I.v33 d33
          refine wpOp_step rfl (fun K' hK => ?_)
          rw [e35, e36, e33]
          unfold cellsW
          go_simp
          refine (CQ.out _ I.x _ h35).mono ?_
          rintro e w3 ⟨rfl, x3⟩
          have J := I.ext x3
          exact hK _ _ ⟨_, bit_set hL hsz 37 (by omega), fun jx => if jx = 82 then .bool true else s jx, by first | (simp [frIA7, e35, e36, e33, cellsW]; done) | (simp [frIA7, e35, e36, e33, cellsW]; rfl), by simpa using hsz, ⟨J.x, J.bq, J.b9, J.b11, J.v0, J.v1, J.v2, J.v3, J.v4, J.v5, J.v6, J.v7, J.v8, J.v9, J.v10, J.v11, J.v12, J.v13, J.v14, J.v15, J.v16, J.v17, J.v18, J.v19, J.v20, J.v21, J.v22, J.v23, J.v24, J.v25, J.v26, J.v27, J.v28, J.v29, J.v30, J.v31, J.v32, J.v33, J.v34, J.v35, J.v36, fun _ => rfl, J.v38, J.v39, J.v40, J.v41, J.v42⟩⟩
        · -- operation 38
          simp [hL, Region.binds] at hdep
          have d33 : L 33 = true := by simp [hdep]
          have d37 : L 37 = true := by simp [hdep]
          have e33 := I.v33 d33
          have e37 := I.v37 d37
          refine wpOp_step rfl (fun K' hK => ?_)
          rw [e33, e37]
          go_simp
          exact hK _ _ ⟨_, bit_set hL hsz 38 (by omega), fun jx => if jx = 83 then .bool true else s jx, by first | (simp [frIA7, e33, e37]; done) | (simp [frIA7, e33, e37]; rfl), by simpa using hsz, ⟨I.x, I.bq, I.b9, I.b11, I.v0, I.v1, I.v2, I.v3, I.v4, I.v5, I.v6, I.v7, I.v8, I.v9, I.v10, I.v11, I.v12, I.v13, I.v14, I.v15, I.v16, I.v17, I.v18, I.v19, I.v20, I.v21, I.v22, I.v23, I.v24, I.v25, I.v26, I.v27, I.v28, I.v29, I.v30, I.v31, I.v32, I.v33, I.v34, I.v35, I.v36, I.v37, fun _ => rfl, I.v39, I.v40, I.v41, I.v42⟩⟩
        · -- operation 39
          simp [hL, Region.binds] at hdep
          have d38 : L 38 = true := by simp [hdep]
          have e38 := I.v38 d38
          refine wpOp_step rfl (fun K' hK => ?_)
          rw [e38]
          go_simp
          exact hK _ _ ⟨_, bit_set hL hsz 39 (by omega), fun jx => if jx = 84 then .bool true else s jx, by first | (simp [frIA7, e38]; done) | (simp [frIA7, e38]; rfl), by simpa using hsz, ⟨I.x, I.bq, I.b9, I.b11, I.v0, I.v1, I.v2, I.v3, I.v4, I.v5, I.v6, I.v7, I.v8, I.v9, I.v10, I.v11, I.v12, I.v13, I.v14, I.v15, I.v16, I.v17, I.v18, I.v19, I.v20, I.v21, I.v22, I.v23, I.v24, I.v25, I.v26, I.v27, I.v28, I.v29, I.v30, I.v31, I.v32, I.v33, I.v34, I.v35, I.v36, I.v37, I.v38, fun _ => rfl, I.v40, I.v41, I.v42⟩⟩
        · -- operation 40
          simp [hL, Region.binds] at hdep
          have d39 : L 39 = true := by simp [hdep]
          have e39 := I.v39 d39
          refine wpOp_step rfl (fun K' hK => ?_)
          rw [e39]
          go_simp
          refine (awake7 _).mono ?_
          rintro e w3 ⟨rfl, x3⟩
          have J := I.ext x3
          exact hK _ _ ⟨_, bit_set hL hsz 40 (by omega), fun jx => if jx = 85 then .bool true else s jx, by first | (simp [frIA7, e39]; done) | (simp [frIA7, e39]; rfl), by simpa using hsz, ⟨J.x, J.bq, J.b9, J.b11, J.v0, J.v1, J.v2, J.v3, J.v4, J.v5, J.v6, J.v7, J.v8, J.v9, J.v10, J.v11, J.v12, J.v13, J.v14, J.v15, J.v16, J.v17, J.v18, J.v19, J.v20, J.v21, J.v22, J.v23, J.v24, J.v25, J.v26, J.v27, J.v28, J.v29, J.v30, J.v31, J.v32, J.v33, J.v34, J.v35, J.v36, J.v37, J.v38, J.v39, fun _ => rfl, J.v41, J.v42⟩⟩
        · -- operation 41
          simp [hL, Region.binds] at hdep
          have d39 : L 39 = true := by simp [hdep]
          have d40 : L 40 = true := by simp [hdep]
          have e39 := I.v39 d39
          have e40 := I.v40 d40
          refine wpOp_step rfl (fun K' hK => ?_)
          rw [e39, e40]
          go_simp
          exact hK _ _ ⟨_, bit_set hL hsz 41 (by omega), fun jx => if jx = 86 then .bool true else s jx, by first | (simp [frIA7, e39, e40]; done) | (simp [frIA7, e39, e40]; rfl), by simpa using hsz, ⟨I.x, I.bq, I.b9, I.b11, I.v0, I.v1, I.v2, I.v3, I.v4, I.v5, I.v6, I.v7, I.v8, I.v9, I.v10, I.v11, I.v12, I.v13, I.v14, I.v15, I.v16, I.v17, I.v18, I.v19, I.v20, I.v21, I.v22, I.v23, I.v24, I.v25, I.v26, I.v27, I.v28, I.v29, I.v30, I.v31, I.v32, I.v33, I.v34, I.v35, I.v36, I.v37, I.v38, I.v39, I.v40, fun _ => rfl, I.v42⟩⟩
        · -- operation 42
          simp [hL, Region.binds] at hdep
          have d41 : L 41 = true := by simp [hdep]
          have e41 := I.v41 d41
          refine wpOp_step rfl (fun K' hK => ?_)
          rw [e41]
          go_simp
          exact hK _ _ ⟨_, bit_set hL hsz 42 (by omega), fun jx => if jx = 4 then .bool true else s jx, by first | (simp [frIA7, e41]; done) | (simp [frIA7, e41]; rfl), by simpa using hsz, ⟨I.x, I.bq, I.b9, I.b11, I.v0, I.v1, I.v2, I.v3, I.v4, I.v5, I.v6, I.v7, I.v8, I.v9, I.v10, I.v11, I.v12, I.v13, I.v14, I.v15, I.v16, I.v17, I.v18, I.v19, I.v20, I.v21, I.v22, I.v23, I.v24, I.v25, I.v26, I.v27, I.v28, I.v29, I.v30, I.v31, I.v32, I.v33, I.v34, I.v35, I.v36, I.v37, I.v38, I.v39, I.v40, I.v41, fun _ => rfl⟩⟩
      · rintro listed act w2 ⟨L, hL, s, rfl, hsz, I⟩ hr
        have ALL : ∀ i, i < 43 → L i = true := fun i hi => by rw [← hL i]; exact all_listed (by kernel_rfl) hsz hr i hi
        have er := I.v42 (ALL 42 (by omega))
        have XF := Lib.hid I.x
        clear I hL ALL hr hsz
        unfold frIA7
        rw [er]
        go_wp2_with fail
        go_ret
        exact ⟨ret_bool rfl, X1.out.trans XF.out⟩
end
end Go.Proofs.Ytadhkmplhgcgkaa.World
