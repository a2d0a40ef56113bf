/-
  Reach13, as one text (a claim has at most 60 files).
-/
import Derived.Test.YtadhkmplhgcgkaaMc19
import Derived.Deep.RegionHeld3
namespace Go.Proofs.Ytadhkmplhgcgkaa.World
open Go.RowKit Go.Proofs.Ytadhkmplhgcgkaa.Plain
set_option linter.unusedVariables false
attribute [local go_sem ↓] Go.wp_at_zero Go.wp_at_succ
theorem make_ints (n : Nat) (hn : n ≤ 1000000) (w : World) : (Instr.makeSlice 22 (.int .i64 (n : Int)) (.int .i64 (n : Int))).run Try.prog w = .ok (.slice (some ⟨w.heap.size, 0, none⟩) n n) (w.alloc (.cells ((List.replicate n (0 : Int)).map (Value.int .i64)).toArray 3)) := by
  obtain ⟨i0, hi, hz0, hz1, hz2⟩ := info_parts infoN
  have h := run_make (P := Try.prog) w 22 3 i0 (.int .i64 0) Try.underlying22 hi hz0 .i64 .i64 (n : Int) (n : Int) (by omega) (by omega) (by rw [hz2]; omega) (by omega)
  rw [h]
  have e : madeCells (Value.cells (.int .i64 0)) ((n : Int).toNat * i0.size) = ((List.replicate n (0 : Int)).map (Value.int .i64)).toArray := by
    rw [hz1, Int.toNat_natCast]
    apply Array.ext
    · simp [madeCells]
    · intro j h1 h2
      simp [madeCells, Value.cells, Nat.mod_one]
  rw [e, Int.toNat_natCast]
theorem int_set (l : List Int) (t : Nat) (y : Int) : ((l.map (Value.int .i64)).toArray).setIfInBounds t (.int .i64 y) = ((l.set t y).map (Value.int .i64)).toArray := by
  rw [List.map_set]; simp
theorem Blk.after (w : World) (ob : Obj) (t : TypeId) (cs : Array Value) : Blk ((w.alloc ob).alloc (.cells cs t)) (w.heap.size + 1) t cs := by
  have h := Blk.new (w.alloc ob) t cs
  have e : (w.alloc ob).heap.size = w.heap.size + 1 := Array.size_push ..
  rw [e] at h; exact h
theorem copy_ok {w : World} {x : WV} {W : PW} (h : WorldAt w x W) (hc : checkB W = true) : Calls Try.prog 31 #[.agg (cellsW W x)] w fun e w' => (∃ x', e = .returned (.agg (cellsW W x')) ∧ NewW w' w.heap.size W x') ∧ Ext w w' := by
  have q := regs_lens hc
  have n := check_len hc
  have dl : W.dead.length ≤ 1000000 := by
    have c := hc
    unfold checkB at c
    simp only [Bool.and_eq_true, decide_eq_true_eq] at c
    have := c.2.1
    omega
  have sn20 : W.R.snaps.length ≤ 1000000 := by
    have c := check_regs hc
    unfold regsB at c
    simp only [Bool.and_eq_true, decide_eq_true_eq] at c
    omega
  refine copy_ h (by omega) dl (by omega) (by omega) (by omega) sn20 (fun i hi => ?_)
  have z := (check_thing hc hi).2
  unfold shapeB at z
  split at z
  · simp only [Bool.and_eq_true, decide_eq_true_eq] at z; omega
  · split at z
    · simp only [Bool.and_eq_true, decide_eq_true_eq] at z; omega
    · cases z
set_option maxRecDepth 100000 in
set_option maxHeartbeats 4000000 in
theorem canon_ {w : World} {x : WV} {W : PW} (h : WorldAt w x W) :
    Calls Try.prog 14 #[.agg (cellsW W x)] w fun e w' => ∃ cs, e = .returned (.agg cs) ∧ (checkB W = false → cs = zeroWc) ∧ (checkB W = true → ∃ l x', RchL W.L.length (nxW W true) (rootsOf W.R) l ∧ cs = cellsW (canonW W l) x' ∧ NewW w' w.heap.size (canonW W l) x') ∧ Ext w w' := by
  have C := Lib.hid (fun W2 (e : Ext w W2) => all_ (h.ext e))
  have CP := Lib.hid (fun W2 (e : Ext w W2) (hc : checkB W = true) => copy_ok (h.ext e) hc)
  have HW := Lib.hid h
  obtain ⟨vL, fs, vD, vRe, vWa, vDu, vSn⟩ := x
  obtain ⟨AL, cL', e1, l1, l2⟩ := h.L.row.form
  have e1 : vL = .slice AL W.L.length cL' := e1
  subst e1
  have HL := Lib.hid (fun i (hi : i < W.L.length) => h.L.cells rfl i hi)
  have HV := Lib.hid (fun i (hi : i < W.L.length) => h.L.flds i hi)
  clear h
  have CW := Lib.hid (show cellsW W ⟨.slice AL W.L.length cL', fs, vD, vRe, vWa, vDu, vSn⟩ = #[.slice AL W.L.length cL', vD, .int .i64 W.last, .int .i64 W.R.proc, .int .i64 W.R.frame, vRe, vWa, vDu, .string W.R.out, .string W.R.inp, .int .i64 W.R.how, .int .i64 W.R.exit, vSn] from rfl)
  have CPH : Hid (∀ W2, Ext w W2 → checkB W = true → Calls Try.prog 31 #[.agg #[.slice AL W.L.length cL', vD, .int .i64 W.last, .int .i64 W.R.proc, .int .i64 W.R.frame, vRe, vWa, vDu, .string W.R.out, .string W.R.inp, .int .i64 W.R.how, .int .i64 W.R.exit, vSn]] W2 fun e w' => (∃ x', e = .returned (.agg (cellsW W x')) ∧ NewW w' W2.heap.size W x') ∧ Ext W2 w') := Lib.hid (fun W2 e hc => by
    have q := CP.out W2 e hc
    rw [CW.out] at q
    exact q)
  clear CP
  rw [CW.out] at C
  rw [CW.out]
  go_enter Try.func14, Try.ntmps14
  have XX := Lib.hid (((Ext.refl w).alloc (.cells #[.slice AL W.L.length cL', vD, .int .i64 W.last, .int .i64 W.R.proc, .int .i64 W.R.frame, vRe, vWa, vDu, .string W.R.out, .string W.R.inp, .int .i64 W.R.how, .int .i64 W.R.exit, vSn] 31)).alloc (.cells zeroWc 31))
  have B1 := Lib.hid ((Blk.new w 31 #[.slice AL W.L.length cL', vD, .int .i64 W.last, .int .i64 W.R.proc, .int .i64 W.R.frame, vRe, vWa, vDu, .string W.R.out, .string W.R.inp, .int .i64 W.R.how, .int .i64 W.R.exit, vSn]).alloc (.cells zeroWc 31))
  have B2 := Lib.hid (Blk.after w (.cells #[.slice AL W.L.length cL', vD, .int .i64 W.last, .int .i64 W.R.proc, .int .i64 W.R.frame, vRe, vWa, vDu, .string W.R.out, .string W.R.inp, .int .i64 W.R.how, .int .i64 W.R.exit, vSn] 31) 31 zeroWc)
  go_wp2_with fail
  refine (C.out _ XX.out).mono ?_
  rintro e w2 ⟨v, rfl, P, x2⟩
  have X2 := Lib.hid (XX.out.trans x2)
  replace B1 := Lib.hid (B1.out.ext x2)
  replace B2 := Lib.hid (B2.out.ext x2)
  obtain ⟨p1, p2, p3⟩ := B1.out.rules
  obtain ⟨q1, q2, q3⟩ := B2.out.rules
  clear x2 C XX
  generalize hg : w.heap.size = g1 at *
  cases hck : checkB W with
  | false =>
    obtain rfl := P.no hck
    have HC := Lib.hid hck
    clear HL HV HW hck P
    unfold zeroWc at q1
    have nil0 : ∀ W', Sem.run Try.prog (binOp .eql 25 (.slice none 0 0) (.slice none 0 0)) W' = .ok (.bool true) W' := fun _ => by kernel_rfl
    go_wp2_with fail
    have hg2 : w.heap.size ≤ g1 + 1 := by omega
    refine bodyPost_ret (v := .agg zeroWc) (by simp [results, Try.results14, go_sem, q1, zeroWc] <;> rfl) rfl ⟨_, rfl, fun _ => rfl, fun h => absurd h (by rw [HC.out]; decide), ?_⟩
    exact (((((((((((((X2.out.setNew (p := ⟨g1 + 1, 0, none⟩) hg2 _).setNew (p := ⟨g1 + 1, 1, none⟩) hg2 _).setNew (p := ⟨g1 + 1, 2, none⟩) hg2 _).setNew (p := ⟨g1 + 1, 3, none⟩) hg2 _).setNew (p := ⟨g1 + 1, 4, none⟩) hg2 _).setNew (p := ⟨g1 + 1, 5, none⟩) hg2 _).setNew (p := ⟨g1 + 1, 6, none⟩) hg2 _).setNew (p := ⟨g1 + 1, 7, none⟩) hg2 _).setNew (p := ⟨g1 + 1, 8, none⟩) hg2 _).setNew (p := ⟨g1 + 1, 9, none⟩) hg2 _).setNew (p := ⟨g1 + 1, 10, none⟩) hg2 _).setNew (p := ⟨g1 + 1, 11, none⟩) hg2 _).setNew (p := ⟨g1 + 1, 12, none⟩) hg2 _)
  | true =>
    obtain ⟨l, gS, rfl, hl, bS, hgS⟩ := P.yes hck
    have NL := check_len hck
    have MK := make_ints W.L.length (by omega)
    have NXI := Lib.hid (fun i (hi : i < W.L.length) => nexts_in (weak := true) hck hi)
    have RL := Lib.hid hl
    have BS := Lib.hid bS
    have hcp := Lib.hid hck
    clear hck P hl bS
    have nil1 : ∀ W', Sem.run Try.prog (binOp .eql 25 (.slice (some ⟨gS, 0, none⟩) W.L.length W.L.length) (.slice none 0 0)) W' = .ok (.bool false) W' := fun _ => by kernel_rfl
    go_upto_region 5 with (fail)
    refine wp_name (fun w3 hW => ?_)
    have x3 : Ext w2 w3 := by rw [hW]; exact ((Ext.refl _).alloc _).alloc _
    have bA : Blk w3 w2.heap.size 3 (((List.replicate W.L.length (0 : Int)).map (Value.int .i64)).toArray) := by
      have e : ((List.replicate W.L.length (0 : Int)).map (Value.int .i64)).toArray = Array.replicate W.L.length (.int .i64 0) := by simp
      rw [hW, e]; exact (Blk.new w2 _ _).alloc _
    have b4 : Blk w3 (w2.heap.size + 1) 22 #[.slice (some ⟨w2.heap.size, 0, none⟩) W.L.length W.L.length] := by rw [hW]; exact Blk.after w2 _ _ _
    have hgA : g1 ≤ w2.heap.size := by rw [← hg]; exact X2.out.below.size
    have X3 := Lib.hid (X2.out.trans x3)
    have A3 := Lib.hid bA
    have C3 := Lib.hid b4
    replace B1 := Lib.hid (B1.out.ext x3)
    replace B2 := Lib.hid (B2.out.ext x3)
    replace BS := Lib.hid (BS.out.ext x3)
    clear p1 p2 p3 q1 q2 q3
    obtain ⟨p1, p2, p3⟩ := B1.out.rules
    clear hW x3 bA b4 MK nil1 X2
    generalize w2.heap.size = gA at *
    clear w2
    have llen := RL.out.1
    have e0 : atK l 0 = List.replicate W.L.length 0 := by rw [atK_0, llen]
    have HLL := Lib.hid llen
    rw [← e0] at A3
    clear llen e0
    go_wp2_with fail
    go_loopw [5, 24] (fun nv iv wr => ∃ i : Nat, i ≤ W.L.length ∧ iv = .int .i64 i ∧ nv = .int .i64 (rankL l i : Nat) ∧ Blk wr gA 3 ((atK l i).map (Value.int .i64)).toArray ∧ Keep (· = gA) w3 wr) (fun nv iv _ => W.L.length - (intOf iv).toNat)
    case atStart => exact ⟨0, Nat.zero_le _, rfl, rfl, A3.out, Keep.refl _ _⟩
    case round =>
      obtain ⟨i, hi, rfl, rfl, bA, kA⟩ := hrel
      have BAH := Lib.hid bA
      have KAH := Lib.hid kA
      have bS := BS.out.keep kA (BS.out.ne A3.out (by decide))
      have b4 := C3.out.keep kA (C3.out.ne A3.out (by decide))
      by_cases hlt : i < W.L.length
      · have iI : (i : Int) < (W.L.length : Int) := by omega
        have cs := seen_cell bS i (by rw [HLL.out]; exact hlt)
        have hSl := bS.lt
        have rk := rankL_succ l i (by rw [HLL.out]; exact hlt)
        have rl := rankL_le l i
        obtain ⟨r1, r2, r3⟩ := b4.rules
        have fA' : wr.frozen? ⟨gA, i, none⟩ = false := bA.frozen i
        have hAl := bA.lt
        have cA : wr.cell? ⟨gA, i, none⟩ = some (.int .i64 ((atK l i).getD i 0)) := by
          rw [bA.cell]
          simp [List.getD_eq_getElem?_getD, atK_len, HLL.out, hlt]
        obtain ⟨oldv, hov⟩ : ∃ q, (atK l i).getD i 0 = q := ⟨_, rfl⟩
        rw [hov] at cA
        clear hov
        cases hsb : sB l i with
        | true =>
          have AY := Lib.hid (atK_yes l i (by rw [HLL.out]; exact hlt) hsb)
          rw [hsb] at cs
          rw [hsb, if_pos rfl] at rk
          have RK := Lib.hid rk
          clear rk hsb bA kA bS b4
          obtain ⟨rn, hrn⟩ : ∃ q, rankL l i = q := ⟨_, rfl⟩
          rw [hrn] at AY RK rl
          rw [hrn]
          clear hrn
          have KS : Hid (Keep (· = gA) w3 (wr.setCell ⟨gA, i, none⟩ (.int .i64 (rn : Int)))) := Lib.hid (KAH.out.setCell (p := ⟨gA, i, none⟩) rfl _)
          have BS2 : Hid (Blk (wr.setCell ⟨gA, i, none⟩ (.int .i64 (rn : Int))) gA 3 ((atK l (i + 1)).map (Value.int .i64)).toArray) := Lib.hid (by
            rw [← AY.out, ← int_set]; exact BAH.out.set i _)
          go_wp2_with fail
          go_roundw
          case rel => exact ⟨i + 1, by omega, by go_num, by rw [RK.out]; go_num, BS2.out, KS.out⟩
          case measure => simp [intOf]; omega
        | false =>
          have AN := Lib.hid (atK_no l i (by rw [HLL.out]; exact hlt) hsb)
          rw [hsb] at cs
          rw [hsb] at rk
          have RK : Hid (rankL l (i + 1) = rankL l i) := Lib.hid (by rw [rk]; simp)
          clear rk hsb bA kA bS b4
          go_wp2_with fail
          go_roundw
          case rel => exact ⟨i + 1, by omega, by go_num, by rw [RK.out], by rw [← AN.out]; exact BAH.out, KAH.out⟩
          case measure => simp [intOf]; omega
      · obtain rfl : i = W.L.length := by omega
        have hr := rankL_le l W.L.length
        have BA := BAH
        have B1r := Lib.hid (B1.out.keep kA (B1.out.ne A3.out (by decide)))
        have B2r := Lib.hid (B2.out.keep kA (B2.out.ne A3.out (by decide)))
        have BSr := Lib.hid bS
        have C4r := Lib.hid b4
        have Xr : Hid (Ext w wr) := Lib.hid (Ext.of_below (Keep.below X3.out.below kA X3.out.below.size (fun i hi e => by omega)))
        clear bA kA bS b4 BAH KAH A3 C3 B1 B2 BS X3 p1 p2 p3
        obtain ⟨p1, p2, p3⟩ := B1r.out.rules
        have CC := Lib.hid (fun W2 (e : Ext w W2) => CPH.out W2 e hcp.out)
        clear hi hlt
        go_wp2_with fail
        refine (CC.out wr Xr.out).mono ?_
        rintro e w4 ⟨⟨x', rfl, N4⟩, x4⟩
        obtain ⟨vL', fs', vD', vRe', vWa', vDu', vSn'⟩ := x'
        have RN := Lib.hid N4.R
        have hb4 : w.heap.size ≤ wr.heap.size := Xr.out.below.size
        obtain ⟨Ax, cx, hAx⟩ := N4.L.form
        obtain ⟨Ad, cd, hAd⟩ := N4.dead.form
        have hAx : vL' = .slice Ax W.L.length cx := hAx
        have hAd : vD' = .slice Ad W.dead.length cd := hAd
        subst hAx hAd
        obtain ⟨Are, cre, hre⟩ := RN.out.re.form
        obtain ⟨Awa, cwa, hwa⟩ := RN.out.wa.form
        obtain ⟨Adu, cdu, hdu⟩ := RN.out.du.form
        obtain ⟨Asn, csn, hsn⟩ := RN.out.sn.form
        have hre : vRe' = .slice Are W.R.ready.length cre := hre
        have hwa : vWa' = .slice Awa W.R.wait.length cwa := hwa
        have hdu : vDu' = .slice Adu W.R.due.length cdu := hdu
        have hsn : vSn' = .slice Asn W.R.snaps.length csn := hsn
        subst hre hwa hdu hsn
        have hbw := Lib.hid x4.below.size
        have hrb : gA + 1 < wr.heap.size := C4r.out.lt
        have HNum := Lib.hid N4.nums
        replace B1r := Lib.hid (B1r.out.ext x4)
        replace B2r := Lib.hid (B2r.out.ext x4)
        replace BSr := Lib.hid (BSr.out.ext x4)
        replace C4r := Lib.hid (C4r.out.ext x4)
        replace BA := Lib.hid (BA.out.ext x4)
        replace Xr := Lib.hid (Xr.out.trans x4)
        clear p1 p2 p3 N4 x4 CC CPH
        have n17 : g1 ≠ w4.heap.size := Nat.ne_of_lt B1r.out.lt
        have n27 : g1 + 1 ≠ w4.heap.size := Nat.ne_of_lt B2r.out.lt
        obtain ⟨p1, p2, p3⟩ := B1r.out.rules
        unfold cellsW
        go_upto_region 14 with (fail)
        refine wp_name (fun w5 hW => ?_)
        have x5 : Ext w4 w5 := by rw [hW]; exact (Ext.refl _).alloc _
        have B7 : Hid (Blk w5 w4.heap.size 31 (cellsC W (.slice Ax W.L.length cx) (.slice Ad W.dead.length cd) (.slice Are W.R.ready.length cre) (.slice Awa W.R.wait.length cwa) (.slice Adu W.R.due.length cdu) (.slice Asn W.R.snaps.length csn))) := Lib.hid (by rw [hW]; exact Blk.new _ _ _)
        replace B1r := Lib.hid (B1r.out.ext x5)
        replace B2r := Lib.hid (B2r.out.ext x5)
        replace BSr := Lib.hid (BSr.out.ext x5)
        replace C4r := Lib.hid (C4r.out.ext x5)
        replace BA := Lib.hid (BA.out.ext x5)
        replace Xr := Lib.hid (Xr.out.trans x5)
        replace RN := Lib.hid (RN.out.ext x5)
        clear p1 p2 p3 hW x5
        have hg7 : w.heap.size ≤ w4.heap.size := by have := hbw.out; omega
        have hgb : w.heap.size ≤ wr.heap.size := hb4
        clear hbw hb4
        generalize w4.heap.size = g7 at *
        generalize wr.heap.size = rb at *
        obtain ⟨q1, q2, q3⟩ := B7.out.rules
        go_upto_region 15 with (fail)
        refine wp_name (fun w6 hW => ?_)
        have K1 := kt_set B7.out 0 (.slice none 0 0)
        have B71 := B7.out.set 0 (.slice none 0 0)
        have K2 := kt_set B71 1 (.slice none 0 0)
        have B72 := B71.set 1 (.slice none 0 0)
        have C0 : Hid (CK w rb g1 gA gS g7 W l (canK W l 0) (.slice none 0 0) (fun _ => .slice none 0 0) (.slice Are W.R.ready.length cre) (.slice Awa W.R.wait.length cwa) (.slice Adu W.R.due.length cdu) (.slice Asn W.R.snaps.length csn) w6) := Lib.hid (by
          rw [hW]
          exact ⟨(Xr.out.setNew (p := ⟨g7, 0, none⟩) hg7 _).setNew (p := ⟨g7, 1, none⟩) hg7 _, (B2r.out.far (p := ⟨g7, 0, none⟩) n27 _).far (p := ⟨g7, 1, none⟩) n27 _, blk_kt (blk_kt BSr.out K1 (by decide)) K2 (by decide), blk_kt (blk_kt C4r.out K1 (by decide)) K2 (by decide), by rw [show atL l = atK l W.L.length from by unfold atL; rw [HLL.out]]; exact blk_kt (blk_kt BA.out K1 (by decide)) K2 (by decide), by simpa [cellsC] using B72, World.ownsRow_nil _ _ _ _, fun q hq => absurd hq (Nat.not_lt_zero _), fun q p hq _ => absurd hq (Nat.not_lt_zero _), (RN.out.kt K1 (by decide) (by decide) (by decide)).kt K2 (by decide) (by decide) (by decide)⟩)
        have B1s := (B1r.out.far (p := ⟨g7, 0, none⟩) n17 (.slice none 0 0)).far (p := ⟨g7, 1, none⟩) n17 (.slice none 0 0)
        rw [← hW] at B1s
        clear q1 q2 q3 hW K1 B71 K2 B72 B7 B1r B2r BSr C4r BA Xr RN n17
        obtain ⟨p1, p2, p3⟩ := B1s.rules
        clear B1s
        go_wp2_with fail
        clear p1 p2 p3
        have HT := Lib.hid (fun i (hi : i < W.L.length) => (check_thing hcp.out hi).1)
        have HFd := Lib.hid (fun i (hi : i < W.L.length) => canon_fld hcp.out hi)
        go_loopw [45] (fun iv wr => ∃ (i : Nat) (vL : Value) (fs2 : Nat → Value), i ≤ W.L.length ∧ iv = .int .i64 i ∧ CK w rb g1 gA gS g7 W l (canK W l i) vL fs2 (.slice Are W.R.ready.length cre) (.slice Awa W.R.wait.length cwa) (.slice Adu W.R.due.length cdu) (.slice Asn W.R.snaps.length csn) wr) (fun iv _ => W.L.length - (intOf iv).toNat)
        case atStart => exact ⟨0, _, _, Nat.zero_le _, rfl, C0.out⟩
        case round =>
          clear C0
          obtain ⟨i, vL, fs2, hi, rfl, C⟩ := hrel
          have CC := Lib.hid C
          by_cases hlt : i < W.L.length
          · have iI : (i : Int) < (W.L.length : Int) := by omega
            obtain ⟨b, off, rfl, hb, d0, d1, d2, d3, d4, d5⟩ := HL.out i hlt
            have vf := HV.out i hlt
            obtain ⟨AF, cF', ef, f1, f2⟩ := Row.form vf
            replace ef : fs i = .slice AF (tAt W.L i).F.length cF' := ef
            replace d4 : w.cell? ⟨b, off + i * 6 + 4, none⟩ = some (fs i) := d4
            replace vf : ValsAt w (fs i) (tAt W.L i).F := vf
            rw [ef] at d4 vf
            have XA := Lib.hid C.x
            replace hb : b < w.heap.size := by rw [hg]; exact hb
            replace d0 := (XA.out.below.cell (p := ⟨b, off + i * 6, none⟩) hb).trans d0
            replace d1 := (XA.out.below.cell (p := ⟨b, off + i * 6 + 1, none⟩) hb).trans d1
            replace d2 := (XA.out.below.cell (p := ⟨b, off + i * 6 + 2, none⟩) hb).trans d2
            replace d3 := (XA.out.below.cell (p := ⟨b, off + i * 6 + 3, none⟩) hb).trans d3
            replace d4 := (XA.out.below.cell (p := ⟨b, off + i * 6 + 4, none⟩) hb).trans d4
            replace d5 := (XA.out.below.cell (p := ⟨b, off + i * 6 + 5, none⟩) hb).trans d5
            have VF := Lib.hid vf
            have cs := seen_cell C.bS i (by rw [HLL.out]; exact hlt)
            have hSl := C.bS.lt
            have KS := Lib.hid (canK_succ W l i)
            have kl := canK_len W l i
            cases hsb : sB l i with
            | false =>
              rw [hsb] at cs
              have KN : Hid (canK W l (i + 1) = canK W l i) := Lib.hid (by rw [KS.out, hsb]; simp)
              clear ef vf C KS hsb kl
              go_wp2_with fail
              go_roundw
              case rel => exact ⟨i + 1, _, _, by omega, by go_num, by rw [KN.out]; exact CC.out.ext ((Ext.refl _).alloc _)⟩
              case measure => simp [intOf]; omega
            | true =>
              rw [hsb] at cs
              have KN : Hid (canK W l (i + 1) = canK W l i ++ [canT (atL l) (tAt W.L i)]) := Lib.hid (by rw [KS.out, hsb]; simp)
              obtain ⟨hc0, hc1⟩ := HT.out i hlt
              obtain ⟨hF60, hFo⟩ := HFd.out i hlt
              clear ef vf C KS hsb
              generalize canK W l i = K at *
              generalize tAt W.L i = t at *
              obtain ⟨cl, hcl⟩ := Int.eq_ofNat_of_zero_le hc0
              rw [hcl] at d0 hc1
              have cA : wr.cell? ⟨gA, cl, none⟩ = some (.int .i64 (fA (atL l) cl)) := by
                have hl2 : (atL l).length = W.L.length := by unfold atL; rw [atK_len]; exact HLL.out
                have hc2 : cl < W.L.length := by omega
                rw [CC.out.bA.cell]
                unfold fA
                rw [Int.toNat_natCast]
                simp [List.getD_eq_getElem?_getD, hl2, hc2]
              have hAl := CC.out.bA.lt
              obtain ⟨r1, r2, r3⟩ := CC.out.b4.rules
              have HC := Lib.hid hcl
              obtain ⟨z, hz⟩ : ∃ z, fA (atL l) cl = z := ⟨_, rfl⟩
              rw [hz] at cA
              have HZ := Lib.hid hz
              clear hcl hz hc0
              go_wp2_with fail
              refine calls_name (fun W2 hW => ?_)
              have BT := Blk.new' hW
              have X2 := (Ext.refl wr).alloc' hW
              clear hW
              refine (cloneV (Row.ext VF.out (XA.out.trans X2)) (by omega) (fun i j => by unfold cV; split <;> rfl)).mono ?_
              rintro e w8 ⟨vF', rfl, ow, x8⟩
              obtain ⟨AV, cV', eV⟩ := ow.form
              subst eV
              have X8 := Lib.hid (X2.trans x8)
              have OW := Lib.hid (ow.base (b' := w.heap.size) (by have := (XA.out.trans X2).below.size; exact this))
              have APN := Lib.hid (fun q (hq : q < K.length) => ow.apart ((CC.out.fl q hq).ext X2))
              have BT8 := Lib.hid (BT.ext x8)
              obtain ⟨t1, t2, t3⟩ := BT8.out.rules
              clear BT X2 x8 ow d0 d1 d2 d3 d4 d5 cA r1 r2 r3
              go_upto_region 21 with (fail)
              refine wp_name (fun w9 hW => ?_)
              have X9 : Hid (Ext wr w9) := Lib.hid (by rw [hW]; exact X8.out.setNew (p := ⟨wr.heap.size, 4, none⟩) (Nat.le_refl _) _)
              have BT9 : Hid (Blk w9 wr.heap.size 57 #[.int .i64 z, .int .i64 t.fmt, .int .i64 t.hash, .bool t.fin, .slice AV t.F.length cV', .string t.B]) := Lib.hid (by rw [hW]; exact BT8.out.set 4 _)
              have OW9 : Hid (Own w9 w.heap.size 37 (.slice AV t.F.length cV') t.F.length 2 (cF (canP (atL l) t.F 0))) := Lib.hid (by rw [hW, canP_0]; exact OW.out.set BT8.out (by decide))
              have C9 := Lib.hid (CC.out.ext X9.out)
              have hg9 : w.heap.size ≤ wr.heap.size := XA.out.below.size
              clear t1 t2 t3 hW X8 OW BT8 CC X9 XA VF
              generalize wr.heap.size = g9 at *
              obtain ⟨t1, t2, t3⟩ := BT9.out.rules
              go_wp2_with fail
              clear t1 t2 t3
              go_loopw [68] (fun jv wi => ∃ j : Nat, j ≤ t.F.length ∧ jv = .int .i64 j ∧ CK w rb g1 gA gS g7 W l K vL fs2 (.slice Are W.R.ready.length cre) (.slice Awa W.R.wait.length cwa) (.slice Adu W.R.due.length cdu) (.slice Asn W.R.snaps.length csn) wi ∧ Blk wi g9 57 #[.int .i64 z, .int .i64 t.fmt, .int .i64 t.hash, .bool t.fin, .slice AV t.F.length cV', .string t.B] ∧ Own wi w.heap.size 37 (.slice AV t.F.length cV') t.F.length 2 (cF (canP (atL l) t.F j))) (fun jv _ => t.F.length - (intOf jv).toNat)
              case atStart => exact ⟨0, Nat.zero_le _, rfl, C9.out, BT9.out, OW9.out⟩
              case round =>
                clear C9 BT9 OW9
                obtain ⟨j, hj, rfl, C, BT, OW⟩ := hrel
                have CC := Lib.hid C
                have BTH := Lib.hid BT
                have OWH := Lib.hid OW
                by_cases hlj : j < t.F.length
                · have jI : (j : Int) < (t.F.length : Int) := by omega
                  obtain ⟨gV, cap, cur, eV, v1, v2, v3, bV, z0, z1, put⟩ := own_val OW (canP_len _ _ _).symm j hlj
                  injection eV with e1 e2 e3
                  subst e1 e3
                  have BVH := Lib.hid bV
                  have PUT := Lib.hid put
                  have hV := bV.lt
                  have fV := bV.frozen
                  rw [canP_at _ _ _ hlj] at z0 z1
                  have hOb := hFo j hlj
                  have SAME := Lib.hid (canP_same (atL l) t.F j hlj)
                  have SET := Lib.hid (canP_set (atL l) t.F j hlj)
                  have PA := Lib.hid (canP_at (atL l) t.F j hlj)
                  generalize hv : vAt t.F j = v at *
                  obtain ⟨o, n⟩ := v
                  clear C BT OW bV put
                  cases o with
                  | false =>
                    obtain ⟨t1, t2, t3⟩ := BTH.out.rules
                    have SM := Lib.hid (SAME.out rfl)
                    clear SAME SET hOb PUT BVH hv
                    go_wp2_with fail
                    go_roundw
                    case rel => exact ⟨j + 1, by omega, by go_num, CC.out.ext ((Ext.refl _).alloc _), BTH.out.ext ((Ext.refl _).alloc _), by rw [← SM.out]; exact OWH.out.ext ((Ext.refl _).alloc _)⟩
                    case measure => simp [intOf]; omega
                  | true =>
                    obtain ⟨n0, n1⟩ := hOb rfl
                    obtain ⟨y, hy⟩ := Int.eq_ofNat_of_zero_le n0
                    replace hy : n = (y : Int) := hy
                    subst hy
                    replace n1 : (y : Int) < (W.L.length : Int) := n1
                    have cA : wr.cell? ⟨gA, y, none⟩ = some (.int .i64 (fA (atL l) y)) := by
                      have hl2 : (atL l).length = W.L.length := by unfold atL; rw [atK_len]; exact HLL.out
                      have hc2 : y < W.L.length := by omega
                      rw [CC.out.bA.cell]
                      unfold fA
                      rw [Int.toNat_natCast]
                      simp [List.getD_eq_getElem?_getD, hl2, hc2]
                    have SE : Hid ((canP (atL l) t.F j).set j ⟨true, fA (atL l) y⟩ = canP (atL l) t.F (j + 1)) := Lib.hid SET.out
                    clear SET SAME hOb n0 hv
                    generalize fA (atL l) y = z2 at *
                    go_upto_region 25 with (fail)
                    refine wp_name (fun w11 hW => ?_)
                    have X11 : Ext wr w11 := by rw [hW]; exact (Ext.refl _).alloc _
                    have B11 : Blk w11 wr.heap.size 37 #[.bool true, .int .i64 (y : Int)] := by rw [hW]; exact Blk.new _ _ _
                    have nV : gV ≠ wr.heap.size := Nat.ne_of_lt hV
                    have hVw : gV < w11.heap.size := Nat.lt_of_lt_of_le hV X11.below.size
                    have fVw : ∀ q, w11.frozen? ⟨gV, q, none⟩ = false := fun q => (X11.below.frozen (p := ⟨gV, q, none⟩) hV).trans (fV q)
                    have cAw := (X11.below.cell (p := ⟨gA, y, none⟩) CC.out.bA.lt).trans cA
                    have hAw := (CC.out.bA.ext X11).lt
                    obtain ⟨t1, t2, t3⟩ := (BTH.out.ext X11).rules
                    obtain ⟨r1, r2, r3⟩ := (CC.out.b4.ext X11).rules
                    obtain ⟨s1, s2, s3⟩ := B11.rules
                    have k1 := t1 4
                    have k2 := r1 0
                    have k3 := s1 1
                    simp only [List.getElem?_toArray, List.getElem?_cons_zero, List.getElem?_cons_succ] at k1 k2 k3
                    have bVw := BVH.out.ext X11
                    have z1w := (X11.below.cell (p := ⟨gV, j * 2 + 1, none⟩) hV).trans z1
                    have nV9 := bVw.ne (BTH.out.ext X11) (by decide)
                    have nVA := bVw.ne (CC.out.bA.ext X11) (by decide)
                    have nV4 := bVw.ne (CC.out.b4.ext X11) (by decide)
                    have nV' := nV.symm
                    have nV9' := nV9.symm
                    have nVA' := nVA.symm
                    have nV4' := nV4.symm
                    have KV : Keep (· = gV) w11 (w11.setCell ⟨gV, j * 2 + 1, none⟩ (.int .i64 z2)).drew := ((Keep.refl (· = gV) w11).setCell (p := ⟨gV, j * 2 + 1, none⟩) rfl _).drew
                    have C12 := Lib.hid ((CC.out.ext X11).val KV bVw v3 (fun q hq => APN.out q hq gV rfl))
                    have BT12 := Lib.hid ((BTH.out.ext X11).keep KV nV9')
                    have OW12 : Hid (Own (w11.setCell ⟨gV, j * 2 + 1, none⟩ (.int .i64 z2)).drew w.heap.size 37 (.slice (some ⟨gV, 0, none⟩) t.F.length cV') t.F.length 2 (cF (canP (atL l) t.F (j + 1)))) := Lib.hid (by
                      have q := PUT.out (w11.setCell ⟨gV, j * 2 + 1, none⟩ (.int .i64 z2)).drew z2 (bVw.set (j * 2 + 1) (.int .i64 z2))
                      rw [PA.out] at q
                      rw [← SE.out]; exact q)
                    clear bVw KV PA SE PUT BVH CC BTH OWH
                    clear hW X11 cA B11 hV fV z0 z1 t1 r1 s1
                    generalize wr.heap.size = g11 at *
                    go_region_held3 (fun w' => w'.cell? ⟨g9, 4, none⟩ = some (.slice (some ⟨gV, 0, none⟩) t.F.length cV') ∧ w'.cell? ⟨gA + 1, 0, none⟩ = some (.slice (some ⟨gA, 0, none⟩) W.L.length W.L.length) ∧ w'.cell? ⟨g11, 1, none⟩ = some (.int .i64 (y : Int)) ∧ w'.cell? ⟨gA, y, none⟩ = some (.int .i64 z2)) (first | go_keep | exact ⟨k1, k2, k3, cAw⟩) (fail)
                    go_wp2_with fail
                    go_roundw
                    case rel => exact ⟨j + 1, by omega, by go_num, C12.out, BT12.out, OW12.out⟩
                    case measure => simp [intOf]; omega
                · obtain rfl : j = t.F.length := by omega
                  obtain ⟨AL2, cL2, eL⟩ := C.L.form
                  subst eL
                  obtain ⟨t1, t2, t3⟩ := BT.rules
                  obtain ⟨o1, o2, o3⟩ := C.b7.rules
                  unfold cellsC at o1
                  obtain ⟨i0, hi0, hz0, hz1, hz2⟩ := info_parts infoT
                  have OWE : Hid (Own wr w.heap.size 37 (.slice AV t.F.length cV') (canT (atL l) t).F.length 2 (cF (canT (atL l) t).F)) := Lib.hid (by
                    have q := OW
                    rw [canP_all] at q
                    show Own wr _ _ _ (t.F.map (canV (atL l))).length 2 (cF (t.F.map (canV (atL l))))
                    rw [List.length_map]; exact q)
                  have ez : Hid (z = (canT (atL l) t).cls) := Lib.hid (by show z = fA (atL l) t.cls; rw [HC.out, HZ.out])
                  have XB := Lib.hid C.x.below.size
                  clear C BT OW BTH OWH HC HZ hFo
                  go_wp2_with (at_builtin; refine wpList_append_own_at _ rfl (.tmp 87) (.tmp 89) 24 rfl w.heap.size 57 i0 (.agg #[.int .i64 0, .int .i64 0, .int .i64 0, .bool false, .slice none 0 0, .string ByteArray.empty]) 6 72 Try.underlying24 hi0 hz0 hz1 hz2 rfl (by decide) (.slice AL2 K.length cL2) K.length (flat K.length 6 (cL K fs2)) rfl ?c0 ⟨wr.heap.size, 0, none⟩ 1 1 [.int .i64 z, .int .i64 t.fmt, .int .i64 t.hash, .bool t.fin, .slice AV t.F.length cV', .string t.B] rfl rfl ?c1 ?c2 ?c3 ?c4 ?c5 ?_)
                  case c0 => exact CC.out.L.ext ((Ext.refl _).alloc _)
                  case c1 =>
                    intro q u hq
                    have hB := Blk.new wr 57 #[.int .i64 z, .int .i64 t.fmt, .int .i64 t.hash, .bool t.fin, .slice AV t.F.length cV', .string t.B]
                    rw [Addr.add_lit, Nat.zero_add, hB.cell, ← Array.getElem?_toList]
                    exact hq
                  case c2 =>
                    intro u hu
                    simp only [List.mem_cons, List.not_mem_nil, or_false] at hu
                    rcases hu with rfl | rfl | rfl | rfl | rfl | rfl <;> rfl
                  case c3 => unfold maxLen; omega
                  case c4 => omega
                  case c5 => have := XB.out; have h2 := ((Ext.refl wr).alloc (.cells #[.int .i64 z, .int .i64 t.fmt, .int .i64 t.hash, .bool t.fin, .slice AV t.F.length cV', .string t.B] 57)).below.size; omega
                  intro v' w13 o13 g13 _ _
                  have X12 := (Ext.refl wr).alloc (.cells #[.int .i64 z, .int .i64 t.fmt, .int .i64 t.hash, .bool t.fin, .slice AV t.F.length cV', .string t.B] 57)
                  have KW : Keep (fun j => Value.ownBlock (.slice AL2 K.length cL2) = some j) (wr.alloc (.cells #[.int .i64 z, .int .i64 t.fmt, .int .i64 t.hash, .bool t.fin, .slice AV t.F.length cV', .string t.B] 57)) w13 := ⟨g13.os, g13.tape, g13.output, g13.size, fun k hk hn => g13.block k hk (fun e => hn e.symm)⟩
                  have CN := (CC.out.ext X12).push (t := canT (atL l) t) (v' := v') (vF := .slice AV t.F.length cV') KW (by rw [← ez.out, hg]; exact o13) (OWE.out.ext X12) APN.out hg7 n27
                  obtain ⟨AL6, cL6, eL6⟩ := CN.L.form
                  rw [show (K ++ [canT (atL l) t]).length = K.length + 1 from by simp] at eL6
                  have y := (CC.out.b7.ext X12).keep KW (fun e => by obtain ⟨_, cs, hb⟩ := (CC.out.L.ext X12).block e; exact (CC.out.b7.ext X12).ne hb (by decide) rfl)
                  obtain ⟨y1, y2, y3⟩ := y.rules
                  unfold cellsC at y1
                  subst eL6
                  have CNH := Lib.hid CN
                  clear t1 t2 t3 o1 o2 o3 CN y X12 KW o13 g13 ez OWE
                  go_wp2_with fail
                  go_roundw
                  case rel => exact ⟨i + 1, _, _, by omega, by go_num, by rw [KN.out]; exact CNH.out⟩
                  case measure => simp [intOf]; omega
          · obtain rfl : i = W.L.length := by omega
            obtain ⟨AL2, cL2, eL⟩ := C.L.form
            subst eL
            obtain ⟨o1, o2, o3⟩ := C.b7.rules
            unfold cellsC at o1
            have TSH : Hid (TS gA W.L.length (atL l) (.slice Are W.R.ready.length cre) (.slice Adu W.R.due.length cdu)) := Lib.hid ⟨by unfold atL; rw [atK_len]; exact HLL.out, by omega, fun e => by have := (C.R.re.block e).1; omega, fun e => by have := (C.R.du.block e).1; omega⟩
            have OKH := Lib.hid (canon_ok hcp.out)
            have NUM := Lib.hid (canon_nums HW.out.nums hcp.out HLL.out)
            clear C HL HV HT HFd
            go_wp2_with fail
            refine (told_ CC.out.b7 CC.out.b4 CC.out.bA CC.out.R TSH.out OKH.out).mono ?_
            rintro e w14 ⟨rfl, b14, r14, k14⟩
            obtain ⟨x14, z14, L14, F14⟩ := CC.out.told k14 hg7 hgb n27
            have B14 := Lib.hid b14
            have Z14 := Lib.hid z14
            have HX := Lib.hid (⟨x14, L14, F14, r14⟩ : Ext w w14 ∧ _ ∧ _ ∧ _)
            have APN := Lib.hid CC.out.ap
            clear o1 o2 o3 x14 L14 F14 r14 k14 CC TSH OKH
            obtain ⟨y1, y2, y3⟩ := b14.rules
            obtain ⟨q1, q2, q3⟩ := z14.rules
            unfold zeroWc at q1
            clear b14 z14
            go_wp2_with fail
            have hgx : w.heap.size ≤ g1 + 1 := by omega
            have KP := (((((((((((((Keep.refl (· = g1 + 1) w14).setCell (p := ⟨g1 + 1, 0, none⟩) rfl (.slice AL2 (canK W l W.L.length).length cL2)).setCell (p := ⟨g1 + 1, 1, none⟩) rfl (.slice none 0 0)).setCell (p := ⟨g1 + 1, 2, none⟩) rfl (.int .i64 W.last)).setCell (p := ⟨g1 + 1, 3, none⟩) rfl (.int .i64 (toldN (fA (atL l)) W.R.proc))).setCell (p := ⟨g1 + 1, 4, none⟩) rfl (.int .i64 (toldN (fA (atL l)) W.R.frame))).setCell (p := ⟨g1 + 1, 5, none⟩) rfl (.slice Are W.R.ready.length cre)).setCell (p := ⟨g1 + 1, 6, none⟩) rfl (.slice Awa W.R.wait.length cwa)).setCell (p := ⟨g1 + 1, 7, none⟩) rfl (.slice Adu W.R.due.length cdu)).setCell (p := ⟨g1 + 1, 8, none⟩) rfl (.string W.R.out)).setCell (p := ⟨g1 + 1, 9, none⟩) rfl (.string W.R.inp)).setCell (p := ⟨g1 + 1, 10, none⟩) rfl (.int .i64 W.R.how)).setCell (p := ⟨g1 + 1, 11, none⟩) rfl (.int .i64 W.R.exit)).setCell (p := ⟨g1 + 1, 12, none⟩) rfl (.slice Asn W.R.snaps.length csn)
            have KPT : KT [31] w14 _ := Keep.mono KP (fun j e => by subst e; exact ⟨_, _, by simp, Z14.out⟩)
            refine bodyPost_ret (v := .agg #[.slice AL2 (canK W l W.L.length).length cL2, .slice none 0 0, .int .i64 W.last, .int .i64 (toldN (fA (atL l)) W.R.proc), .int .i64 (toldN (fA (atL l)) W.R.frame), .slice Are W.R.ready.length cre, .slice Awa W.R.wait.length cwa, .slice Adu W.R.due.length cdu, .string W.R.out, .string W.R.inp, .int .i64 W.R.how, .int .i64 W.R.exit, .slice Asn W.R.snaps.length csn]) (by simp [results, Try.results14, go_sem, q1] <;> rfl) rfl ?_
            refine ⟨_, rfl, fun h => absurd h (by rw [hcp.out]; decide), fun _ => ⟨l, ⟨.slice AL2 (canK W l W.L.length).length cL2, fs2, .slice none 0 0, .slice Are W.R.ready.length cre, .slice Awa W.R.wait.length cwa, .slice Adu W.R.due.length cdu, .slice Asn W.R.snaps.length csn⟩, RL.out, rfl, canon_new (HX.out.2.1.kt KPT (by decide)) (fun q hq => (HX.out.2.2.1 q hq).kt KPT (by decide)) APN.out ((HX.out.2.2.2.kt KPT (by decide) (by decide) (by decide)).base hgb) NUM.out⟩, ?_⟩
            exact (((((((((((((HX.out.1).setNew (p := ⟨g1 + 1, 0, none⟩) hgx (.slice AL2 (canK W l W.L.length).length cL2)).setNew (p := ⟨g1 + 1, 1, none⟩) hgx (.slice none 0 0)).setNew (p := ⟨g1 + 1, 2, none⟩) hgx (.int .i64 W.last)).setNew (p := ⟨g1 + 1, 3, none⟩) hgx (.int .i64 (toldN (fA (atL l)) W.R.proc))).setNew (p := ⟨g1 + 1, 4, none⟩) hgx (.int .i64 (toldN (fA (atL l)) W.R.frame))).setNew (p := ⟨g1 + 1, 5, none⟩) hgx (.slice Are W.R.ready.length cre)).setNew (p := ⟨g1 + 1, 6, none⟩) hgx (.slice Awa W.R.wait.length cwa)).setNew (p := ⟨g1 + 1, 7, none⟩) hgx (.slice Adu W.R.due.length cdu)).setNew (p := ⟨g1 + 1, 8, none⟩) hgx (.string W.R.out)).setNew (p := ⟨g1 + 1, 9, none⟩) hgx (.string W.R.inp)).setNew (p := ⟨g1 + 1, 10, none⟩) hgx (.int .i64 W.R.how)).setNew (p := ⟨g1 + 1, 11, none⟩) hgx (.int .i64 W.R.exit)).setNew (p := ⟨g1 + 1, 12, none⟩) hgx (.slice Asn W.R.snaps.length csn)
end Go.Proofs.Ytadhkmplhgcgkaa.World
