/-
  RefRegs, as one text (a claim has at most 60 files).
-/
import Derived.Test.YtjpalcejmloocaaGreatVq48
import Derived.Test.YtjpalcejmloocaaGreatVq44
import Derived.Deep.RegionHeld3
namespace Go.Proofs.YtjpalcejmloocaaGreat.World
open Go.RowKit Go.Proofs.YtjpalcejmloocaaGreat.Plain
set_option linter.unusedVariables false
attribute [local go_sem ↓] Go.wp_at_zero Go.wp_at_succ
def tailR (R : PR) : Bool := decide ((R.wait.length : Int) ≤ 20) && (decide ((R.out.size : Int) ≤ 4096) && (decide ((R.inp.size : Int) ≤ 4096) && (decide (0 ≤ R.how) && (decide (R.how ≤ 4) && (decide (0 ≤ R.exit) && (decide (R.exit ≤ 255) && decide ((R.snaps.length : Int) ≤ 20)))))))
def tailC (W : PW) : Bool := liveB W W.R.proc && (liveB W W.R.frame && ((thereL W W.R.ready && decide ((W.R.ready.length : Int) ≤ 20)) && ((thereL W W.R.due && decide ((W.R.due.length : Int) ≤ 3000)) && (allTo (unlB W.L.length W.R.due) W.R.due.length && tailR W.R))))
def regR (W : PW) : Bool := waitB W W.R.wait && (snapsB W.R.snaps && tailC W)
theorem ints2_new (w : World) (a b : Int) : IntsAt (w.alloc (.cells #[.int .i64 a, .int .i64 b] 3)) (.slice (some ⟨w.heap.size, 0, none⟩) 2 2) [a, b] := by
  have B := Blk.new w 3 #[.int .i64 a, .int .i64 b]
  refine ⟨_, _, rfl, Nat.le_refl _, by omega, fun i hi => ⟨_, 0, rfl, B.lt, fun j hj => ?_⟩⟩
  have hj : j = 0 := by omega
  subst hj
  have hi : i < 2 := hi
  rw [B.cell]
  rcases (show i = 0 ∨ i = 1 by omega) with rfl | rfl <;> rfl
theorem there2 (W : PW) (a b : Int) : (thereL W [a, b] && decide ((([a, b] : List Int).length : Int) ≤ 2)) = (thereB W a && thereB W b) := by
  unfold thereL
  show (((true && thereB W a) && thereB W b) && true) = _
  simp
section
variable {w : World} {x : WV} {W : PW}
set_option maxRecDepth 100000 in
set_option maxHeartbeats 8000000 in
theorem rregs (h : WorldAt w x W) (hn0 : W.L.length ≤ 1000000) : Calls Tryz.prog 80 #[.agg (cellsW W x)] w fun e w' => e = .returned (.bool (regR W)) ∧ Ext w w' := by
  have CL := Lib.hid (fun W2 (y : Ext w W2) (a : Int) => rlive (h.ext y) a)
  have CP : Hid (∀ W2, Ext w W2 → ∀ a b v, IntsAt W2 v [a, b] → Calls Tryz.prog 107 #[.agg (cellsW W x), v, .int .i64 2] W2 fun e w' => e = .returned (.bool (thereB W a && thereB W b)) ∧ Ext W2 w') := Lib.hid (fun W2 y a b v hv => by
    have q := rplaces (h.ext y) hv 2
    rw [there2] at q; exact q)
  have CR := Lib.hid (fun W2 (y : Ext w W2) => rplaces (h.ext y) (h.ready.ext y) 20)
  have CD := Lib.hid (fun W2 (y : Ext w W2) => rplaces (h.ext y) (h.due.ext y) 3000)
  have CU := Lib.hid (fun W2 (y : Ext w W2) => runlike (h.ext y) hn0 (h.due.ext y))
  have AW := Lib.hid (allTo_false (fun j => thereB W (wAt W.R.wait j).1 && thereB W (wAt W.R.wait j).2) W.R.wait.length)
  have AWS := Lib.hid (allTo_succ (fun j => thereB W (wAt W.R.wait j).1 && thereB W (wAt W.R.wait j).2))
  have EW : Hid (waitB W W.R.wait = allTo (fun j => thereB W (wAt W.R.wait j).1 && thereB W (wAt W.R.wait j).2) W.R.wait.length) := rfl
  have AN := Lib.hid (allTo_false (fun j => decide ((sAt W.R.snaps j).size ≤ 65536)) W.R.snaps.length)
  have ANS := Lib.hid (allTo_succ (fun j => decide ((sAt W.R.snaps j).size ≤ 65536)))
  have EN : Hid (snapsB W.R.snaps = allTo (fun j => decide ((sAt W.R.snaps j).size ≤ 65536)) W.R.snaps.length) := rfl
  have E : Hid (regR W = (waitB W W.R.wait && (snapsB W.R.snaps && tailC W))) := rfl
  have ET : Hid (tailC W = (liveB W W.R.proc && (liveB W W.R.frame && ((thereL W W.R.ready && decide ((W.R.ready.length : Int) ≤ 20)) && ((thereL W W.R.due && decide ((W.R.due.length : Int) ≤ 3000)) && (allTo (unlB W.L.length W.R.due) W.R.due.length && tailR W.R)))))) := rfl
  have ER : Hid (tailR W.R = (decide ((W.R.wait.length : Int) ≤ 20) && (decide ((W.R.out.size : Int) ≤ 4096) && (decide ((W.R.inp.size : Int) ≤ 4096) && (decide (0 ≤ W.R.how) && (decide (W.R.how ≤ 4) && (decide (0 ≤ W.R.exit) && (decide (W.R.exit ≤ 255) && decide ((W.R.snaps.length : Int) ≤ 20))))))))) := rfl
  have NS : Hid (∀ s ∈ W.R.snaps, s.size ≤ maxLen) := Lib.hid h.nums.snaps
  have no := h.nums.out
  have ni := h.nums.inp
  unfold maxLen at no ni
  have HW := Lib.hid h
  obtain ⟨vL, fs, vD, vRe, vWa, vDu, vSn⟩ := x
  obtain ⟨AL, cL, eL, lL, _⟩ := h.L.row.form
  replace eL : vL = .slice AL W.L.length cL := eL
  subst eL
  obtain ⟨AD, cD, eD, lD, _⟩ := Row.form h.dead
  replace eD : vD = .slice AD W.dead.length cD := eD
  subst eD
  obtain ⟨ARe, cRe, eRe, lRe, _⟩ := Row.form h.ready
  replace eRe : vRe = .slice ARe W.R.ready.length cRe := eRe
  subst eRe
  obtain ⟨AWa, cWa, eWa, lWa, _⟩ := Row.form h.wait
  replace eWa : vWa = .slice AWa W.R.wait.length cWa := eWa
  subst eWa
  obtain ⟨ADu, cDu, eDu, lDu, _⟩ := Row.form h.due
  replace eDu : vDu = .slice ADu W.R.due.length cDu := eDu
  subst eDu
  obtain ⟨ASn, cSn, eSn, lSn, _⟩ := Row.form h.snaps
  replace eSn : vSn = .slice ASn W.R.snaps.length cSn := eSn
  subst eSn
  have HI : Hid (∀ j, j < W.R.wait.length → ∃ b off, AWa = some ⟨b, off, none⟩ ∧ b < w.heap.size ∧ w.cell? ⟨b, off + j * 2, none⟩ = some (.int .i64 (wAt W.R.wait j).1) ∧ w.cell? ⟨b, off + j * 2 + 1, none⟩ = some (.int .i64 (wAt W.R.wait j).2)) := Lib.hid (fun j hj => by
    obtain ⟨b, off, e, hb, hc⟩ := Row.at_ h.wait j hj
    exact ⟨b, off, e, hb, hc 0 (by omega), hc 1 (by omega)⟩)
  have HS : Hid (∀ j, j < W.R.snaps.length → ∃ b off, ASn = some ⟨b, off, none⟩ ∧ b < w.heap.size ∧ w.cell? ⟨b, off + j, none⟩ = some (.string (sAt W.R.snaps j))) := Lib.hid (fun j hj => by
    obtain ⟨b, off, e, hb, hc⟩ := Row.at_ h.snaps j hj
    have c := hc 0 (by omega)
    exact ⟨b, off, e, hb, by simpa using c⟩)
  unfold cellsW at CL CP CR CD CU ⊢
  clear h
  go_enter Tryz.func80, Tryz.ntmps80
  go_upto_region 2 with (fail)
  refine wp_name (fun W0 hW => ?_)
  have b1 := Blk.new' hW
  have b0 : Blk W0 w.heap.size _ _ := (Blk.new w _ _).alloc' hW
  have X0 := ((Ext.refl w).alloc _).alloc' hW
  simp only [World.size_alloc] at b1
  clear hW
  have B0 := Lib.hid b0
  have B1 := Lib.hid b1
  have XX := Lib.hid X0
  obtain ⟨r1, r2, r3⟩ := b0.rules
  obtain ⟨s1, s2, s3⟩ := b1.rules
  clear b0 b1 X0
  generalize hm : W.R.wait.length = m at *
  generalize hk : W.R.snaps.length = k at *
  have HM := Lib.hid hm
  have HK := Lib.hid hk
  clear hm hk
  go_wp2_with fail
  go_loopw [4] (fun iv wr => ∃ i : Nat, i ≤ m ∧ iv = .int .i64 i ∧ allTo (fun j => thereB W (wAt W.R.wait j).1 && thereB W (wAt W.R.wait j).2) i = true ∧ Ext W0 wr) (fun iv _ => m - (intOf iv).toNat)
  case atStart => exact ⟨0, Nat.zero_le _, rfl, rfl, Ext.refl _⟩
  case round =>
    obtain ⟨i, hi, rfl, ha, xr⟩ := hrel
    have HA := Lib.hid ha
    have X := Lib.hid xr
    have XA := Lib.hid (XX.out.trans xr)
    have B2 := Lib.hid (B0.out.ext xr)
    have B3 := Lib.hid (B1.out.ext xr)
    clear r1 r2 r3 s1 s2 s3 ha xr
    obtain ⟨r1, r2, r3⟩ := B2.out.rules
    obtain ⟨s1, s2, s3⟩ := B3.out.rules
    by_cases hlt : i < m
    · obtain ⟨b, off, rfl, hb, c0, c1⟩ := HI.out i hlt
      replace c0 := (XA.out.below.cell (p := ⟨b, off + i * 2, none⟩) hb).trans c0
      replace c1 := (XA.out.below.cell (p := ⟨b, off + i * 2 + 1, none⟩) hb).trans c1
      have hbr := Nat.lt_of_lt_of_le hb XA.out.below.size
      have iN : (i : Int) < (m : Int) := by omega
      have YES := Lib.hid (fun hq => AWS.out i HA.out hq)
      replace YES : Hid ((thereB W (wAt W.R.wait i).1 && thereB W (wAt W.R.wait i).2) = true → allTo (fun j => thereB W (wAt W.R.wait j).1 && thereB W (wAt W.R.wait j).2) (i + 1) = true) := YES
      have NO : Hid ((thereB W (wAt W.R.wait i).1 && thereB W (wAt W.R.wait i).2) = false → regR W = false) := Lib.hid (fun hq => by rw [E.out, EW.out, AW.out i hlt hq]; rfl)
      have CPi := Lib.hid (fun W2 (y : Ext w W2) v hv => CP.out W2 y (wAt W.R.wait i).1 (wAt W.R.wait i).2 v hv)
      generalize hwa : (thereB W (wAt W.R.wait i).1 && thereB W (wAt W.R.wait i).2) = tb at *
      generalize wAt W.R.wait i = wi at *
      obtain ⟨a1, a2⟩ := wi
      simp only at c0 c1 CPi
      clear hb hwa CP
      go_upto_region 5 with (fail)
      have q0 : wr.cell? ⟨w.heap.size, 0, none⟩ = some (.slice AL W.L.length cL) := r1 0
      have q1 : wr.cell? ⟨w.heap.size, 1, none⟩ = some (.slice AD W.dead.length cD) := r1 1
      have q2 : wr.cell? ⟨w.heap.size, 2, none⟩ = some (.int .i64 W.last) := r1 2
      have q3 : wr.cell? ⟨w.heap.size, 3, none⟩ = some (.int .i64 W.R.proc) := r1 3
      have q4 : wr.cell? ⟨w.heap.size, 4, none⟩ = some (.int .i64 W.R.frame) := r1 4
      have q5 : wr.cell? ⟨w.heap.size, 5, none⟩ = some (.slice ARe W.R.ready.length cRe) := r1 5
      have q6 : wr.cell? ⟨w.heap.size, 6, none⟩ = some (.slice (some ⟨b, off, none⟩) m cWa) := r1 6
      have q7 : wr.cell? ⟨w.heap.size, 7, none⟩ = some (.slice ADu W.R.due.length cDu) := r1 7
      have q8 : wr.cell? ⟨w.heap.size, 8, none⟩ = some (.string W.R.out) := r1 8
      have q9 : wr.cell? ⟨w.heap.size, 9, none⟩ = some (.string W.R.inp) := r1 9
      have q10 : wr.cell? ⟨w.heap.size, 10, none⟩ = some (.int .i64 W.R.how) := r1 10
      have q11 : wr.cell? ⟨w.heap.size, 11, none⟩ = some (.int .i64 W.R.exit) := r1 11
      have q12 : wr.cell? ⟨w.heap.size, 12, none⟩ = some (.slice ASn k cSn) := r1 12
      have s13 : wr.cell? ⟨w.heap.size + 1, 3, none⟩ = some (.slice (some ⟨b, off, none⟩) m cWa) := s1 3
      cases tb with
      | true =>
        have A1 := Lib.hid (YES.out rfl)
        clear YES NO
        go_region_held3 (fun w' => w'.cell? ⟨w.heap.size, 0, none⟩ = some (.slice AL W.L.length cL) ∧ w'.cell? ⟨w.heap.size, 1, none⟩ = some (.slice AD W.dead.length cD) ∧ w'.cell? ⟨w.heap.size, 2, none⟩ = some (.int .i64 W.last) ∧ w'.cell? ⟨w.heap.size, 3, none⟩ = some (.int .i64 W.R.proc) ∧ w'.cell? ⟨w.heap.size, 4, none⟩ = some (.int .i64 W.R.frame) ∧ w'.cell? ⟨w.heap.size, 5, none⟩ = some (.slice ARe W.R.ready.length cRe) ∧ w'.cell? ⟨w.heap.size, 6, none⟩ = some (.slice (some ⟨b, off, none⟩) m cWa) ∧ w'.cell? ⟨w.heap.size, 7, none⟩ = some (.slice ADu W.R.due.length cDu) ∧ w'.cell? ⟨w.heap.size, 8, none⟩ = some (.string W.R.out) ∧ w'.cell? ⟨w.heap.size, 9, none⟩ = some (.string W.R.inp) ∧ w'.cell? ⟨w.heap.size, 10, none⟩ = some (.int .i64 W.R.how) ∧ w'.cell? ⟨w.heap.size, 11, none⟩ = some (.int .i64 W.R.exit) ∧ w'.cell? ⟨w.heap.size, 12, none⟩ = some (.slice ASn k cSn) ∧ w'.cell? ⟨w.heap.size + 1, 3, none⟩ = some (.slice (some ⟨b, off, none⟩) m cWa) ∧ w'.cell? ⟨b, off + i * 2, none⟩ = some (.int .i64 a1) ∧ w'.cell? ⟨b, off + i * 2 + 1, none⟩ = some (.int .i64 a2)) (first | go_keep | with_reducible exact ⟨((is_ext wr _).below.cell (p := ⟨w.heap.size, 0, none⟩) r3).trans q0, ((is_ext wr _).below.cell (p := ⟨w.heap.size, 1, none⟩) r3).trans q1, ((is_ext wr _).below.cell (p := ⟨w.heap.size, 2, none⟩) r3).trans q2, ((is_ext wr _).below.cell (p := ⟨w.heap.size, 3, none⟩) r3).trans q3, ((is_ext wr _).below.cell (p := ⟨w.heap.size, 4, none⟩) r3).trans q4, ((is_ext wr _).below.cell (p := ⟨w.heap.size, 5, none⟩) r3).trans q5, ((is_ext wr _).below.cell (p := ⟨w.heap.size, 6, none⟩) r3).trans q6, ((is_ext wr _).below.cell (p := ⟨w.heap.size, 7, none⟩) r3).trans q7, ((is_ext wr _).below.cell (p := ⟨w.heap.size, 8, none⟩) r3).trans q8, ((is_ext wr _).below.cell (p := ⟨w.heap.size, 9, none⟩) r3).trans q9, ((is_ext wr _).below.cell (p := ⟨w.heap.size, 10, none⟩) r3).trans q10, ((is_ext wr _).below.cell (p := ⟨w.heap.size, 11, none⟩) r3).trans q11, ((is_ext wr _).below.cell (p := ⟨w.heap.size, 12, none⟩) r3).trans q12, ((is_ext wr _).below.cell (p := ⟨w.heap.size + 1, 3, none⟩) s3).trans s13, ((is_ext wr _).below.cell (p := ⟨b, off + i * 2, none⟩) hbr).trans c0, ((is_ext wr _).below.cell (p := ⟨b, off + i * 2 + 1, none⟩) hbr).trans c1⟩) ((first | (go_at_call 107; refine (CPi.out _ (XA.out.trans (is_ext _ _)) _ ((ints2_new _ _ _).ext (is_ext _ _))).mono ?_; rintro e w2 ⟨rfl, x2⟩; have i2 : IsExt wr w2 := ⟨(is_ext wr _).trans x2⟩)))
        go_wp2_with fail
        go_roundw
        case rel => exact ⟨i + 1, by omega, by go_num, A1.out, X.out.trans i2.out⟩
        case measure => simp [intOf]; omega
      | false =>
        have A1 := Lib.hid (NO.out rfl)
        clear YES NO
        go_region_held3 (fun w' => w'.cell? ⟨w.heap.size, 0, none⟩ = some (.slice AL W.L.length cL) ∧ w'.cell? ⟨w.heap.size, 1, none⟩ = some (.slice AD W.dead.length cD) ∧ w'.cell? ⟨w.heap.size, 2, none⟩ = some (.int .i64 W.last) ∧ w'.cell? ⟨w.heap.size, 3, none⟩ = some (.int .i64 W.R.proc) ∧ w'.cell? ⟨w.heap.size, 4, none⟩ = some (.int .i64 W.R.frame) ∧ w'.cell? ⟨w.heap.size, 5, none⟩ = some (.slice ARe W.R.ready.length cRe) ∧ w'.cell? ⟨w.heap.size, 6, none⟩ = some (.slice (some ⟨b, off, none⟩) m cWa) ∧ w'.cell? ⟨w.heap.size, 7, none⟩ = some (.slice ADu W.R.due.length cDu) ∧ w'.cell? ⟨w.heap.size, 8, none⟩ = some (.string W.R.out) ∧ w'.cell? ⟨w.heap.size, 9, none⟩ = some (.string W.R.inp) ∧ w'.cell? ⟨w.heap.size, 10, none⟩ = some (.int .i64 W.R.how) ∧ w'.cell? ⟨w.heap.size, 11, none⟩ = some (.int .i64 W.R.exit) ∧ w'.cell? ⟨w.heap.size, 12, none⟩ = some (.slice ASn k cSn) ∧ w'.cell? ⟨w.heap.size + 1, 3, none⟩ = some (.slice (some ⟨b, off, none⟩) m cWa) ∧ w'.cell? ⟨b, off + i * 2, none⟩ = some (.int .i64 a1) ∧ w'.cell? ⟨b, off + i * 2 + 1, none⟩ = some (.int .i64 a2)) (first | go_keep | with_reducible exact ⟨((is_ext wr _).below.cell (p := ⟨w.heap.size, 0, none⟩) r3).trans q0, ((is_ext wr _).below.cell (p := ⟨w.heap.size, 1, none⟩) r3).trans q1, ((is_ext wr _).below.cell (p := ⟨w.heap.size, 2, none⟩) r3).trans q2, ((is_ext wr _).below.cell (p := ⟨w.heap.size, 3, none⟩) r3).trans q3, ((is_ext wr _).below.cell (p := ⟨w.heap.size, 4, none⟩) r3).trans q4, ((is_ext wr _).below.cell (p := ⟨w.heap.size, 5, none⟩) r3).trans q5, ((is_ext wr _).below.cell (p := ⟨w.heap.size, 6, none⟩) r3).trans q6, ((is_ext wr _).below.cell (p := ⟨w.heap.size, 7, none⟩) r3).trans q7, ((is_ext wr _).below.cell (p := ⟨w.heap.size, 8, none⟩) r3).trans q8, ((is_ext wr _).below.cell (p := ⟨w.heap.size, 9, none⟩) r3).trans q9, ((is_ext wr _).below.cell (p := ⟨w.heap.size, 10, none⟩) r3).trans q10, ((is_ext wr _).below.cell (p := ⟨w.heap.size, 11, none⟩) r3).trans q11, ((is_ext wr _).below.cell (p := ⟨w.heap.size, 12, none⟩) r3).trans q12, ((is_ext wr _).below.cell (p := ⟨w.heap.size + 1, 3, none⟩) s3).trans s13, ((is_ext wr _).below.cell (p := ⟨b, off + i * 2, none⟩) hbr).trans c0, ((is_ext wr _).below.cell (p := ⟨b, off + i * 2 + 1, none⟩) hbr).trans c1⟩) ((first | (go_at_call 107; refine (CPi.out _ (XA.out.trans (is_ext _ _)) _ ((ints2_new _ _ _).ext (is_ext _ _))).mono ?_; rintro e w2 ⟨rfl, x2⟩; have i2 : IsExt wr w2 := ⟨(is_ext wr _).trans x2⟩)))
        go_wp2_with fail
        go_ret
        exact ⟨ret_bool A1.out.symm, XA.out.trans i2.out⟩
    · obtain rfl : i = m := by omega
      have EW2 := Lib.hid (show regR W = (snapsB W.R.snaps && tailC W) from by rw [E.out, EW.out, HA.out, Bool.true_and])
      clear E EW AW AWS HA HI
      go_wp2_with fail
      go_loopw [5] (fun iv wt => ∃ j : Nat, j ≤ k ∧ iv = .int .i64 j ∧ allTo (fun j => decide ((sAt W.R.snaps j).size ≤ 65536)) j = true ∧ Ext wr wt) (fun iv _ => k - (intOf iv).toNat)
      case atStart => exact ⟨0, Nat.zero_le _, rfl, rfl, Ext.refl _⟩
      case round =>
        obtain ⟨j, hj, rfl, ha, xt⟩ := hrel
        have HA := Lib.hid ha
        have Y := Lib.hid xt
        have XB := Lib.hid (XA.out.trans xt)
        replace B2 := Lib.hid (B2.out.ext xt)
        replace B3 := Lib.hid (B3.out.ext xt)
        clear r1 r2 r3 s1 s2 s3 ha xt
        obtain ⟨r1, r2, r3⟩ := B2.out.rules
        obtain ⟨s1, s2, s3⟩ := B3.out.rules
        by_cases hlt : j < k
        · obtain ⟨b, off, rfl, hb, c0⟩ := HS.out j hlt
          replace c0 := (XB.out.below.cell (p := ⟨b, off + j, none⟩) hb).trans c0
          have hbr := Nat.lt_of_lt_of_le hb XB.out.below.size
          have jN : (j : Int) < (k : Int) := by omega
          have ns : (sAt W.R.snaps j).size ≤ 9223372036854775807 := by
            have hj' : j < W.R.snaps.length := by rw [HK.out]; exact hlt
            unfold sAt; rw [List.getD_eq_getElem?_getD, List.getElem?_eq_getElem hj']; exact NS.out _ (List.getElem_mem hj')
          have YES : Hid (decide ((sAt W.R.snaps j).size ≤ 65536) = true → allTo (fun j => decide ((sAt W.R.snaps j).size ≤ 65536)) (j + 1) = true) := Lib.hid (fun hq => ANS.out j HA.out hq)
          have NO : Hid (decide ((sAt W.R.snaps j).size ≤ 65536) = false → regR W = false) := Lib.hid (fun hq => by rw [EW2.out, EN.out, AN.out j hlt hq]; rfl)
          generalize sAt W.R.snaps j = sn at *
          by_cases hs : sn.size ≤ 65536
          · have A1 := Lib.hid (YES.out (decide_eq_true hs))
            have hs' : ¬ ((65536 : Int) < (sn.size : Int)) := by omega
            clear YES NO
            go_wp2_with fail
            go_roundw
            case rel => exact ⟨j + 1, by omega, by go_num, A1.out, Y.out.trans (is_ext _ _)⟩
            case measure => simp [intOf]; omega
          · have A1 := Lib.hid (NO.out (decide_eq_false hs))
            have hs' : (65536 : Int) < (sn.size : Int) := by omega
            clear YES NO
            go_wp2_with fail
            go_ret
            exact ⟨ret_bool A1.out.symm, XB.out.trans (is_ext _ _)⟩
        · obtain rfl : j = k := by omega
          have E2 := Lib.hid (show regR W = tailC W from by rw [EW2.out, EN.out, HA.out, Bool.true_and])
          rw [ET.out, ER.out] at E2
          clear EW2 EN AN ANS HA HS ET ER XA NS HW HK HM Y
          have C1 := Lib.hid (fun W2 (y : Ext w W2) => CL.out W2 y W.R.proc)
          have C2 := Lib.hid (fun W2 (y : Ext w W2) => CL.out W2 y W.R.frame)
          clear CL
          generalize liveB W W.R.proc = p1 at *
          generalize liveB W W.R.frame = p2 at *
          generalize (thereL W W.R.ready && decide ((W.R.ready.length : Int) ≤ 20)) = p3 at *
          generalize (thereL W W.R.due && decide ((W.R.due.length : Int) ≤ 3000)) = p4 at *
          generalize allTo (unlB W.L.length W.R.due) W.R.due.length = p5 at *
          obtain ⟨d0, h0⟩ : ∃ d, decide ((i : Int) ≤ 20) = d := ⟨_, rfl⟩
          rw [h0] at E2
          obtain ⟨d1, h1⟩ : ∃ d, decide ((W.R.out.size : Int) ≤ 4096) = d := ⟨_, rfl⟩
          rw [h1] at E2
          obtain ⟨d2, h2⟩ : ∃ d, decide ((W.R.inp.size : Int) ≤ 4096) = d := ⟨_, rfl⟩
          rw [h2] at E2
          obtain ⟨d3, h3⟩ : ∃ d, decide (0 ≤ W.R.how) = d := ⟨_, rfl⟩
          rw [h3] at E2
          obtain ⟨d4, h4⟩ : ∃ d, decide (W.R.how ≤ 4) = d := ⟨_, rfl⟩
          rw [h4] at E2
          obtain ⟨d5, h5⟩ : ∃ d, decide (0 ≤ W.R.exit) = d := ⟨_, rfl⟩
          rw [h5] at E2
          obtain ⟨d6, h6⟩ : ∃ d, decide (W.R.exit ≤ 255) = d := ⟨_, rfl⟩
          rw [h6] at E2
          obtain ⟨d7, h7⟩ : ∃ d, decide ((j : Int) ≤ 20) = d := ⟨_, rfl⟩
          rw [h7] at E2
          go_upto_region 12 with (fail)
          refine wp_region_fixed ?_
          try simp only [List.append]
          repeat (go_big_quiet_step ((first | (go_at_call 104; with_reducible exact calls_ext (C1.out _ (XB.out.ext _))) | (go_at_call 104; with_reducible exact calls_ext (C2.out _ (XB.out.ext _))) | (go_at_call 107; with_reducible exact calls_ext (CR.out _ (XB.out.ext _))) | (go_at_call 107; with_reducible exact calls_ext (CD.out _ (XB.out.ext _))) | (go_at_call 108; with_reducible exact calls_ext (CU.out _ (XB.out.ext _))))))
          cases p1 with
          | false =>
            rw [Bool.false_and] at E2
            repeat (go_big_quiet_step ((first | (go_at_call 104; with_reducible exact calls_ext (C1.out _ (XB.out.ext _))) | (go_at_call 104; with_reducible exact calls_ext (C2.out _ (XB.out.ext _))) | (go_at_call 107; with_reducible exact calls_ext (CR.out _ (XB.out.ext _))) | (go_at_call 107; with_reducible exact calls_ext (CD.out _ (XB.out.ext _))) | (go_at_call 108; with_reducible exact calls_ext (CU.out _ (XB.out.ext _))))))
            refine wpQuiet_nil ?_
            rintro W3 ⟨xx, rfl⟩
            go_wp2_with fail
            go_ret
            exact ⟨ret_bool (by rw [E2.out]), XB.out.trans (is_ext _ _)⟩
          | true =>
            rw [Bool.true_and] at E2
            repeat (go_big_quiet_step ((first | (go_at_call 104; with_reducible exact calls_ext (C1.out _ (XB.out.ext _))) | (go_at_call 104; with_reducible exact calls_ext (C2.out _ (XB.out.ext _))) | (go_at_call 107; with_reducible exact calls_ext (CR.out _ (XB.out.ext _))) | (go_at_call 107; with_reducible exact calls_ext (CD.out _ (XB.out.ext _))) | (go_at_call 108; with_reducible exact calls_ext (CU.out _ (XB.out.ext _))))))
            cases p2 with
            | false =>
              rw [Bool.false_and] at E2
              repeat (go_big_quiet_step ((first | (go_at_call 104; with_reducible exact calls_ext (C1.out _ (XB.out.ext _))) | (go_at_call 104; with_reducible exact calls_ext (C2.out _ (XB.out.ext _))) | (go_at_call 107; with_reducible exact calls_ext (CR.out _ (XB.out.ext _))) | (go_at_call 107; with_reducible exact calls_ext (CD.out _ (XB.out.ext _))) | (go_at_call 108; with_reducible exact calls_ext (CU.out _ (XB.out.ext _))))))
              refine wpQuiet_nil ?_
              rintro W3 ⟨xx, rfl⟩
              go_wp2_with fail
              go_ret
              exact ⟨ret_bool (by rw [E2.out]), XB.out.trans (is_ext _ _)⟩
            | true =>
              rw [Bool.true_and] at E2
              repeat (go_big_quiet_step ((first | (go_at_call 104; with_reducible exact calls_ext (C1.out _ (XB.out.ext _))) | (go_at_call 104; with_reducible exact calls_ext (C2.out _ (XB.out.ext _))) | (go_at_call 107; with_reducible exact calls_ext (CR.out _ (XB.out.ext _))) | (go_at_call 107; with_reducible exact calls_ext (CD.out _ (XB.out.ext _))) | (go_at_call 108; with_reducible exact calls_ext (CU.out _ (XB.out.ext _))))))
              cases p3 with
              | false =>
                rw [Bool.false_and] at E2
                repeat (go_big_quiet_step ((first | (go_at_call 104; with_reducible exact calls_ext (C1.out _ (XB.out.ext _))) | (go_at_call 104; with_reducible exact calls_ext (C2.out _ (XB.out.ext _))) | (go_at_call 107; with_reducible exact calls_ext (CR.out _ (XB.out.ext _))) | (go_at_call 107; with_reducible exact calls_ext (CD.out _ (XB.out.ext _))) | (go_at_call 108; with_reducible exact calls_ext (CU.out _ (XB.out.ext _))))))
                refine wpQuiet_nil ?_
                rintro W3 ⟨xx, rfl⟩
                go_wp2_with fail
                go_ret
                exact ⟨ret_bool (by rw [E2.out]), XB.out.trans (is_ext _ _)⟩
              | true =>
                rw [Bool.true_and] at E2
                repeat (go_big_quiet_step ((first | (go_at_call 104; with_reducible exact calls_ext (C1.out _ (XB.out.ext _))) | (go_at_call 104; with_reducible exact calls_ext (C2.out _ (XB.out.ext _))) | (go_at_call 107; with_reducible exact calls_ext (CR.out _ (XB.out.ext _))) | (go_at_call 107; with_reducible exact calls_ext (CD.out _ (XB.out.ext _))) | (go_at_call 108; with_reducible exact calls_ext (CU.out _ (XB.out.ext _))))))
                cases p4 with
                | false =>
                  rw [Bool.false_and] at E2
                  repeat (go_big_quiet_step ((first | (go_at_call 104; with_reducible exact calls_ext (C1.out _ (XB.out.ext _))) | (go_at_call 104; with_reducible exact calls_ext (C2.out _ (XB.out.ext _))) | (go_at_call 107; with_reducible exact calls_ext (CR.out _ (XB.out.ext _))) | (go_at_call 107; with_reducible exact calls_ext (CD.out _ (XB.out.ext _))) | (go_at_call 108; with_reducible exact calls_ext (CU.out _ (XB.out.ext _))))))
                  refine wpQuiet_nil ?_
                  rintro W3 ⟨xx, rfl⟩
                  go_wp2_with fail
                  go_ret
                  exact ⟨ret_bool (by rw [E2.out]), XB.out.trans (is_ext _ _)⟩
                | true =>
                  rw [Bool.true_and] at E2
                  repeat (go_big_quiet_step ((first | (go_at_call 104; with_reducible exact calls_ext (C1.out _ (XB.out.ext _))) | (go_at_call 104; with_reducible exact calls_ext (C2.out _ (XB.out.ext _))) | (go_at_call 107; with_reducible exact calls_ext (CR.out _ (XB.out.ext _))) | (go_at_call 107; with_reducible exact calls_ext (CD.out _ (XB.out.ext _))) | (go_at_call 108; with_reducible exact calls_ext (CU.out _ (XB.out.ext _))))))
                  cases p5 with
                  | false =>
                    rw [Bool.false_and] at E2
                    repeat (go_big_quiet_step ((first | (go_at_call 104; with_reducible exact calls_ext (C1.out _ (XB.out.ext _))) | (go_at_call 104; with_reducible exact calls_ext (C2.out _ (XB.out.ext _))) | (go_at_call 107; with_reducible exact calls_ext (CR.out _ (XB.out.ext _))) | (go_at_call 107; with_reducible exact calls_ext (CD.out _ (XB.out.ext _))) | (go_at_call 108; with_reducible exact calls_ext (CU.out _ (XB.out.ext _))))))
                    refine wpQuiet_nil ?_
                    rintro W3 ⟨xx, rfl⟩
                    go_wp2_with fail
                    go_ret
                    exact ⟨ret_bool (by rw [E2.out]), XB.out.trans (is_ext _ _)⟩
                  | true =>
                    rw [Bool.true_and] at E2
                    repeat (go_big_quiet_step ((first | (go_at_call 104; with_reducible exact calls_ext (C1.out _ (XB.out.ext _))) | (go_at_call 104; with_reducible exact calls_ext (C2.out _ (XB.out.ext _))) | (go_at_call 107; with_reducible exact calls_ext (CR.out _ (XB.out.ext _))) | (go_at_call 107; with_reducible exact calls_ext (CD.out _ (XB.out.ext _))) | (go_at_call 108; with_reducible exact calls_ext (CU.out _ (XB.out.ext _))))))
                    cases d0 with
                    | false =>
                      rw [Bool.false_and] at E2
                      repeat (go_big_quiet_step ((first | (go_at_call 104; with_reducible exact calls_ext (C1.out _ (XB.out.ext _))) | (go_at_call 104; with_reducible exact calls_ext (C2.out _ (XB.out.ext _))) | (go_at_call 107; with_reducible exact calls_ext (CR.out _ (XB.out.ext _))) | (go_at_call 107; with_reducible exact calls_ext (CD.out _ (XB.out.ext _))) | (go_at_call 108; with_reducible exact calls_ext (CU.out _ (XB.out.ext _))))))
                      refine wpQuiet_nil ?_
                      rintro W3 ⟨xx, rfl⟩
                      go_wp2_with fail
                      go_ret
                      exact ⟨ret_bool (by rw [E2.out]), XB.out.trans (is_ext _ _)⟩
                    | true =>
                      rw [Bool.true_and] at E2
                      repeat (go_big_quiet_step ((first | (go_at_call 104; with_reducible exact calls_ext (C1.out _ (XB.out.ext _))) | (go_at_call 104; with_reducible exact calls_ext (C2.out _ (XB.out.ext _))) | (go_at_call 107; with_reducible exact calls_ext (CR.out _ (XB.out.ext _))) | (go_at_call 107; with_reducible exact calls_ext (CD.out _ (XB.out.ext _))) | (go_at_call 108; with_reducible exact calls_ext (CU.out _ (XB.out.ext _))))))
                      cases d1 with
                      | false =>
                        rw [Bool.false_and] at E2
                        repeat (go_big_quiet_step ((first | (go_at_call 104; with_reducible exact calls_ext (C1.out _ (XB.out.ext _))) | (go_at_call 104; with_reducible exact calls_ext (C2.out _ (XB.out.ext _))) | (go_at_call 107; with_reducible exact calls_ext (CR.out _ (XB.out.ext _))) | (go_at_call 107; with_reducible exact calls_ext (CD.out _ (XB.out.ext _))) | (go_at_call 108; with_reducible exact calls_ext (CU.out _ (XB.out.ext _))))))
                        refine wpQuiet_nil ?_
                        rintro W3 ⟨xx, rfl⟩
                        go_wp2_with fail
                        go_ret
                        exact ⟨ret_bool (by rw [E2.out]), XB.out.trans (is_ext _ _)⟩
                      | true =>
                        rw [Bool.true_and] at E2
                        repeat (go_big_quiet_step ((first | (go_at_call 104; with_reducible exact calls_ext (C1.out _ (XB.out.ext _))) | (go_at_call 104; with_reducible exact calls_ext (C2.out _ (XB.out.ext _))) | (go_at_call 107; with_reducible exact calls_ext (CR.out _ (XB.out.ext _))) | (go_at_call 107; with_reducible exact calls_ext (CD.out _ (XB.out.ext _))) | (go_at_call 108; with_reducible exact calls_ext (CU.out _ (XB.out.ext _))))))
                        cases d2 with
                        | false =>
                          rw [Bool.false_and] at E2
                          repeat (go_big_quiet_step ((first | (go_at_call 104; with_reducible exact calls_ext (C1.out _ (XB.out.ext _))) | (go_at_call 104; with_reducible exact calls_ext (C2.out _ (XB.out.ext _))) | (go_at_call 107; with_reducible exact calls_ext (CR.out _ (XB.out.ext _))) | (go_at_call 107; with_reducible exact calls_ext (CD.out _ (XB.out.ext _))) | (go_at_call 108; with_reducible exact calls_ext (CU.out _ (XB.out.ext _))))))
                          refine wpQuiet_nil ?_
                          rintro W3 ⟨xx, rfl⟩
                          go_wp2_with fail
                          go_ret
                          exact ⟨ret_bool (by rw [E2.out]), XB.out.trans (is_ext _ _)⟩
                        | true =>
                          rw [Bool.true_and] at E2
                          repeat (go_big_quiet_step ((first | (go_at_call 104; with_reducible exact calls_ext (C1.out _ (XB.out.ext _))) | (go_at_call 104; with_reducible exact calls_ext (C2.out _ (XB.out.ext _))) | (go_at_call 107; with_reducible exact calls_ext (CR.out _ (XB.out.ext _))) | (go_at_call 107; with_reducible exact calls_ext (CD.out _ (XB.out.ext _))) | (go_at_call 108; with_reducible exact calls_ext (CU.out _ (XB.out.ext _))))))
                          cases d3 with
                          | false =>
                            rw [Bool.false_and] at E2
                            repeat (go_big_quiet_step ((first | (go_at_call 104; with_reducible exact calls_ext (C1.out _ (XB.out.ext _))) | (go_at_call 104; with_reducible exact calls_ext (C2.out _ (XB.out.ext _))) | (go_at_call 107; with_reducible exact calls_ext (CR.out _ (XB.out.ext _))) | (go_at_call 107; with_reducible exact calls_ext (CD.out _ (XB.out.ext _))) | (go_at_call 108; with_reducible exact calls_ext (CU.out _ (XB.out.ext _))))))
                            refine wpQuiet_nil ?_
                            rintro W3 ⟨xx, rfl⟩
                            go_wp2_with fail
                            go_ret
                            exact ⟨ret_bool (by rw [E2.out]), XB.out.trans (is_ext _ _)⟩
                          | true =>
                            rw [Bool.true_and] at E2
                            repeat (go_big_quiet_step ((first | (go_at_call 104; with_reducible exact calls_ext (C1.out _ (XB.out.ext _))) | (go_at_call 104; with_reducible exact calls_ext (C2.out _ (XB.out.ext _))) | (go_at_call 107; with_reducible exact calls_ext (CR.out _ (XB.out.ext _))) | (go_at_call 107; with_reducible exact calls_ext (CD.out _ (XB.out.ext _))) | (go_at_call 108; with_reducible exact calls_ext (CU.out _ (XB.out.ext _))))))
                            cases d4 with
                            | false =>
                              rw [Bool.false_and] at E2
                              repeat (go_big_quiet_step ((first | (go_at_call 104; with_reducible exact calls_ext (C1.out _ (XB.out.ext _))) | (go_at_call 104; with_reducible exact calls_ext (C2.out _ (XB.out.ext _))) | (go_at_call 107; with_reducible exact calls_ext (CR.out _ (XB.out.ext _))) | (go_at_call 107; with_reducible exact calls_ext (CD.out _ (XB.out.ext _))) | (go_at_call 108; with_reducible exact calls_ext (CU.out _ (XB.out.ext _))))))
                              refine wpQuiet_nil ?_
                              rintro W3 ⟨xx, rfl⟩
                              go_wp2_with fail
                              go_ret
                              exact ⟨ret_bool (by rw [E2.out]), XB.out.trans (is_ext _ _)⟩
                            | true =>
                              rw [Bool.true_and] at E2
                              repeat (go_big_quiet_step ((first | (go_at_call 104; with_reducible exact calls_ext (C1.out _ (XB.out.ext _))) | (go_at_call 104; with_reducible exact calls_ext (C2.out _ (XB.out.ext _))) | (go_at_call 107; with_reducible exact calls_ext (CR.out _ (XB.out.ext _))) | (go_at_call 107; with_reducible exact calls_ext (CD.out _ (XB.out.ext _))) | (go_at_call 108; with_reducible exact calls_ext (CU.out _ (XB.out.ext _))))))
                              cases d5 with
                              | false =>
                                rw [Bool.false_and] at E2
                                repeat (go_big_quiet_step ((first | (go_at_call 104; with_reducible exact calls_ext (C1.out _ (XB.out.ext _))) | (go_at_call 104; with_reducible exact calls_ext (C2.out _ (XB.out.ext _))) | (go_at_call 107; with_reducible exact calls_ext (CR.out _ (XB.out.ext _))) | (go_at_call 107; with_reducible exact calls_ext (CD.out _ (XB.out.ext _))) | (go_at_call 108; with_reducible exact calls_ext (CU.out _ (XB.out.ext _))))))
                                refine wpQuiet_nil ?_
                                rintro W3 ⟨xx, rfl⟩
                                go_wp2_with fail
                                go_ret
                                exact ⟨ret_bool (by rw [E2.out]), XB.out.trans (is_ext _ _)⟩
                              | true =>
                                rw [Bool.true_and] at E2
                                repeat (go_big_quiet_step ((first | (go_at_call 104; with_reducible exact calls_ext (C1.out _ (XB.out.ext _))) | (go_at_call 104; with_reducible exact calls_ext (C2.out _ (XB.out.ext _))) | (go_at_call 107; with_reducible exact calls_ext (CR.out _ (XB.out.ext _))) | (go_at_call 107; with_reducible exact calls_ext (CD.out _ (XB.out.ext _))) | (go_at_call 108; with_reducible exact calls_ext (CU.out _ (XB.out.ext _))))))
                                cases d6 with
                                | false =>
                                  rw [Bool.false_and] at E2
                                  repeat (go_big_quiet_step ((first | (go_at_call 104; with_reducible exact calls_ext (C1.out _ (XB.out.ext _))) | (go_at_call 104; with_reducible exact calls_ext (C2.out _ (XB.out.ext _))) | (go_at_call 107; with_reducible exact calls_ext (CR.out _ (XB.out.ext _))) | (go_at_call 107; with_reducible exact calls_ext (CD.out _ (XB.out.ext _))) | (go_at_call 108; with_reducible exact calls_ext (CU.out _ (XB.out.ext _))))))
                                  refine wpQuiet_nil ?_
                                  rintro W3 ⟨xx, rfl⟩
                                  go_wp2_with fail
                                  go_ret
                                  exact ⟨ret_bool (by rw [E2.out]), XB.out.trans (is_ext _ _)⟩
                                | true =>
                                  rw [Bool.true_and] at E2
                                  repeat (go_big_quiet_step ((first | (go_at_call 104; with_reducible exact calls_ext (C1.out _ (XB.out.ext _))) | (go_at_call 104; with_reducible exact calls_ext (C2.out _ (XB.out.ext _))) | (go_at_call 107; with_reducible exact calls_ext (CR.out _ (XB.out.ext _))) | (go_at_call 107; with_reducible exact calls_ext (CD.out _ (XB.out.ext _))) | (go_at_call 108; with_reducible exact calls_ext (CU.out _ (XB.out.ext _))))))
                                  refine wpQuiet_nil ?_
                                  rintro W3 ⟨xx, rfl⟩
                                  go_wp2_with fail
                                  go_ret
                                  exact ⟨ret_bool (by rw [E2.out]), XB.out.trans (is_ext _ _)⟩
end
end Go.Proofs.YtjpalcejmloocaaGreat.World
