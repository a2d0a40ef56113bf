/-
  RefThing, as one text (a claim has at most 60 files).
-/
import Derived.Test.YtjpalcejmloocaaGreatVq45
import Derived.Deep.CutRange
import Derived.Deep.CutBlock
namespace Go.Proofs.YtjpalcejmloocaaGreat.World
open Go.RowKit Go.Proofs.YtjpalcejmloocaaGreat.Plain
set_option linter.unusedVariables false
attribute [local go_sem ↓] Go.wp_at_zero Go.wp_at_succ
def valsB (W : PW) (live : Bool) (F : List PV) : Bool := allTo (fun j => valB W live (vAt F j)) F.length
def fmtB (W : PW) (live : Bool) (t : PT) : Bool := if t.fmt = 1 ∨ t.fmt = 2 then valsB W live t.F && (decide (t.F.length ≤ 60) && decide (t.B.size = 0)) else if t.fmt = 3 then decide (t.F.length = 0) && decide (t.B.size ≤ 200) else false
def headT (W : PW) (i : Nat) : Bool := decide (0 ≤ (tAt W.L i).cls ∧ (tAt W.L i).cls < W.L.length) && ((!(liveB W i) || classB W (tAt W.L i).cls) && (decide (1 ≤ (tAt W.L i).hash ∧ (tAt W.L i).hash ≤ 3000) && (decide (i = 0) || decide (prevH W.L i < (tAt W.L i).hash))))
def refT (W : PW) (i : Nat) : Bool := headT W i && fmtB W (liveB W i) (tAt W.L i)
theorem fmt_kind (W : PW) (live : Bool) (t : PT) : ((t.fmt = 1 ∨ t.fmt = 2) ∧ fmtB W live t = (valsB W live t.F && (decide (t.F.length ≤ 60) && decide (t.B.size = 0)))) ∨ (t.fmt = 3 ∧ fmtB W live t = (decide (t.F.length = 0) && decide (t.B.size ≤ 200))) ∨ (t.fmt ≠ 3 ∧ t.fmt ≠ 1 ∧ t.fmt ≠ 2 ∧ fmtB W live t = false) := by
  unfold fmtB
  by_cases h1 : t.fmt = 1 ∨ t.fmt = 2
  · left; exact ⟨h1, by rw [if_pos h1]⟩
  · by_cases h3 : t.fmt = 3
    · right; left; exact ⟨h3, by rw [if_neg h1, if_pos h3]⟩
    · right; right; exact ⟨h3, fun e => h1 (.inl e), fun e => h1 (.inr e), by rw [if_neg h1, if_neg h3]⟩
theorem emp_eq (s : ByteArray) : decide (s = ByteArray.empty) = decide (s.size = 0) :=
  decide_eq_decide.2 ⟨fun e => by rw [e]; rfl, fun e => by
    obtain ⟨d⟩ := s
    have : d = #[] := Array.eq_empty_of_size_eq_zero e
    subst this; rfl⟩
section
variable {w : World} {x : WV} {W : PW}
set_option maxRecDepth 100000 in
set_option maxHeartbeats 4000000 in
theorem rthing (h : WorldAt w x W) (hn0 : W.L.length ≤ 1000000) (i : Nat) (hi : i < W.L.length) : Calls Tryz.prog 78 #[.agg (cellsW W x), .int .i64 i] w fun e w' => e = .returned (.bool (refT W i)) ∧ Ext w w' := by
  have hnum := h.nums.things _ (tAt_mem hi)
  have CL := Lib.hid (fun W2 (y : Ext w W2) => rlive (h.ext y) (i : Int))
  have CC := Lib.hid (fun W2 (y : Ext w W2) => rclass (h.ext y) (tAt W.L i).cls)
  have CV := Lib.hid (fun W2 (y : Ext w W2) v => rval (h.ext y) v (liveB W i))
  have E : Hid (refT W i = (headT W i && fmtB W (liveB W i) (tAt W.L i))) := rfl
  have EH : Hid (headT W i = (decide (0 ≤ (tAt W.L i).cls ∧ (tAt W.L i).cls < W.L.length) && ((!(liveB W i) || classB W (tAt W.L i).cls) && (decide (1 ≤ (tAt W.L i).hash ∧ (tAt W.L i).hash ≤ 3000) && (decide (i = 0) || decide (prevH W.L i < (tAt W.L i).hash)))))) := rfl
  have EP : Hid (∀ j, prevH W.L (j + 1) = (tAt W.L j).hash) := Lib.hid (fun _ => rfl)
  have FK := Lib.hid (fmt_kind W (liveB W i) (tAt W.L i))
  have AF := Lib.hid (allTo_false (fun j => valB W (liveB W i) (vAt (tAt W.L i).F j)) (tAt W.L i).F.length)
  have AS := Lib.hid (allTo_succ (fun j => valB W (liveB W i) (vAt (tAt W.L i).F j)))
  have EV : Hid (valsB W (liveB W i) (tAt W.L i).F = allTo (fun j => valB W (liveB W i) (vAt (tAt W.L i).F j)) (tAt W.L i).F.length) := rfl
  obtain ⟨vL, fs, vD, vRe, vWa, vDu, vSn⟩ := x
  obtain ⟨AL, cL, e1, l1, l2⟩ := h.L.row.form
  have e1 : vL = .slice AL W.L.length cL := e1
  subst e1
  have HC := Lib.hid (fun (j : Nat) (hj : j < W.L.length) => h.L.cells rfl j hj)
  obtain ⟨b, off, rfl, hb, d0, d1, d2, d3, d4, d5⟩ := HC.out i hi
  replace d4 : w.cell? ⟨b, off + i * 6 + 4, none⟩ = some (fs i) := d4
  have vt : ValsAt w (fs i) (tAt W.L i).F := h.L.flds i hi
  obtain ⟨AFi, cF, ef, f1, f2⟩ := Row.form vt
  replace ef : fs i = .slice AFi (tAt W.L i).F.length cF := ef
  rw [ef] at vt d4
  have VT := Lib.hid vt
  have iI : (i : Int) < (W.L.length : Int) := by omega
  have hh : in64 (tAt W.L i).hash := hnum.2.2.1
  have hc : in64 (tAt W.L i).cls := hnum.1
  have hBm : (tAt W.L i).B.size ≤ maxLen := hnum.2.2.2.1
  have hE := emp_size (tAt W.L i).B
  unfold in64 at hh hc
  unfold maxLen at hBm
  unfold cellsW at CL CC CV ⊢
  clear h hnum ef vt
  generalize hn : W.L.length = n at *
  have HN := Lib.hid hn
  clear hn
  generalize ht : tAt W.L i = t at *
  generalize hlv : liveB W i = lv at *
  generalize hcl : classB W t.cls = cb at *
  generalize hhd : headT W i = hd at *
  clear ht hlv hcl hhd
  go_enter Tryz.func78, Tryz.ntmps78
  go_upto_region 2 with (fail)
  refine wp_name (fun W1 hW => ?_)
  have BT := Blk.new' hW
  have BW : Blk W1 w.heap.size _ _ := (Blk.new w _ _).alloc' hW
  have X1 := ((Ext.refl w).alloc _).alloc' hW
  simp only [World.size_alloc] at BT
  clear hW
  obtain ⟨r1, r2, r3⟩ := BW.rules
  obtain ⟨s1, s2, s3⟩ := BT.rules
  go_wp2_with fail
  refine (CL.out _ X1).mono ?_
  rintro e w2 ⟨rfl, x2⟩
  have BT2 := Lib.hid (BT.ext x2)
  have BW2 := Lib.hid (BW.ext x2)
  have X2 := Lib.hid (X1.trans x2)
  have hcp : i = 0 ∨ (0 < i ∧ w2.cell? ⟨b, off + (i - 1) * 6 + 2, none⟩ = some (.int .i64 (prevH W.L i)) ∧ IntKind.i64.wrap ((i : Int) - 1) = ((i - 1 : Nat) : Int)) := by
    cases i with
    | zero => exact .inl rfl
    | succ j =>
      obtain ⟨b', off', e', _, _, _, p2, _⟩ := HC.out j (by omega)
      injection e' with e'
      injection e' with e1 e2
      subst e1 e2
      refine .inr ⟨by omega, ?_, ?_⟩
      · rw [EP.out]; exact (X2.out.below.cell (p := ⟨b, off + j * 6 + 2, none⟩) hb).trans p2
      · simp (disch := omega) only [IntWalk.i64_in]; omega
  have hb2 := Nat.lt_of_lt_of_le hb X2.out.below.size
  clear x2 X1 BT BW r1 r2 r3 s1 s2 s3 d0 d1 d2 d3 d4 d5 hb HC
  obtain ⟨r1, r2, r3⟩ := BW2.out.rules
  obtain ⟨s1, s2, s3⟩ := BT2.out.rules
  have HW := Lib.hid (show W.L.length = n from HN.out)
  generalize prevH W.L i = ph at *
  go_upto_region 3 with (fail)
  go_cut [62] from 16 to 62 (fun v wx => v = .bool (!hd) ∧ Ext w2 wx)
  case first =>
    by_cases h1 : t.cls < 0
    · have h1' : ¬ (0 ≤ t.cls) := by omega
      go_upto_region 3 with (fail)
      refine wp_region_ext (by kernel_rfl) (by kernel_rfl) ?_
      repeat (go_big_quiet_step ((first | (go_at_call 105; exact calls_ext (CC.out _ (X2.out.ext _))))))
      refine wpQuiet_nil ?_
      rintro W3 ⟨xx, rfl⟩
      go_wp2_with fail
      go_meet
      exact ⟨by rw [EH.out]; simp (disch := omega) [*] <;> omega, is_ext _ _⟩
    · have h1' : 0 ≤ t.cls := by omega
      have k1 : decide (t.cls < 0) = false := decide_eq_false h1
      clear h1
      by_cases h2 : t.cls < (n : Int)
      · have k2 : decide ((n : Int) ≤ t.cls) = false := decide_eq_false (by omega)
        cases lv with
        | true =>
          cases cb with
          | false =>
            go_upto_region 3 with (fail)
            refine wp_region_ext (by kernel_rfl) (by kernel_rfl) ?_
            repeat (go_big_quiet_step ((first | (go_at_call 105; exact calls_ext (CC.out _ (X2.out.ext _))))))
            refine wpQuiet_nil ?_
            rintro W3 ⟨xx, rfl⟩
            go_wp2_with fail
            go_meet
            exact ⟨by rw [EH.out]; simp (disch := omega) [*] <;> omega, is_ext _ _⟩
          | true =>
            by_cases h4 : t.hash < 1
            · have h4' : ¬ (1 ≤ t.hash) := by omega
              go_upto_region 3 with (fail)
              refine wp_region_ext (by kernel_rfl) (by kernel_rfl) ?_
              repeat (go_big_quiet_step ((first | (go_at_call 105; exact calls_ext (CC.out _ (X2.out.ext _))))))
              refine wpQuiet_nil ?_
              rintro W3 ⟨xx, rfl⟩
              go_wp2_with fail
              go_meet
              exact ⟨by rw [EH.out]; simp (disch := omega) [*] <;> omega, is_ext _ _⟩
            · have k4 : decide (t.hash < 1) = false := decide_eq_false h4
              by_cases h5 : 3000 < t.hash
              · have h5' : ¬ (t.hash ≤ 3000) := by omega
                go_upto_region 3 with (fail)
                refine wp_region_ext (by kernel_rfl) (by kernel_rfl) ?_
                repeat (go_big_quiet_step ((first | (go_at_call 105; exact calls_ext (CC.out _ (X2.out.ext _))))))
                refine wpQuiet_nil ?_
                rintro W3 ⟨xx, rfl⟩
                go_wp2_with fail
                go_meet
                exact ⟨by rw [EH.out]; simp (disch := omega) [*] <;> omega, is_ext _ _⟩
              · have k5 : decide (3000 < t.hash) = false := decide_eq_false h5
                rcases hcp with rfl | ⟨hi0, cp, jw⟩
                · skip
                  go_upto_region 3 with (fail)
                  refine wp_region_ext (by kernel_rfl) (by kernel_rfl) ?_
                  repeat (go_big_quiet_step ((first | (go_at_call 105; exact calls_ext (CC.out _ (X2.out.ext _))))))
                  refine wpQuiet_nil ?_
                  rintro W3 ⟨xx, rfl⟩
                  go_wp2_with fail
                  go_meet
                  exact ⟨by rw [EH.out]; simp (disch := omega) [*] <;> omega, is_ext _ _⟩
                · by_cases h6 : ph < t.hash
                  · skip
                    go_upto_region 3 with (fail)
                    refine wp_region_ext (by kernel_rfl) (by kernel_rfl) ?_
                    repeat (go_big_quiet_step ((first | (go_at_call 105; exact calls_ext (CC.out _ (X2.out.ext _))))))
                    refine wpQuiet_nil ?_
                    rintro W3 ⟨xx, rfl⟩
                    go_wp2_with fail
                    go_meet
                    exact ⟨by rw [EH.out]; simp (disch := omega) [*] <;> omega, is_ext _ _⟩
                  · skip
                    go_upto_region 3 with (fail)
                    refine wp_region_ext (by kernel_rfl) (by kernel_rfl) ?_
                    repeat (go_big_quiet_step ((first | (go_at_call 105; exact calls_ext (CC.out _ (X2.out.ext _))))))
                    refine wpQuiet_nil ?_
                    rintro W3 ⟨xx, rfl⟩
                    go_wp2_with fail
                    go_meet
                    exact ⟨by rw [EH.out]; simp (disch := omega) [*] <;> omega, is_ext _ _⟩
        | false =>
          by_cases h4 : t.hash < 1
          · have h4' : ¬ (1 ≤ t.hash) := by omega
            go_upto_region 3 with (fail)
            refine wp_region_ext (by kernel_rfl) (by kernel_rfl) ?_
            repeat (go_big_quiet_step ((first | (go_at_call 105; exact calls_ext (CC.out _ (X2.out.ext _))))))
            refine wpQuiet_nil ?_
            rintro W3 ⟨xx, rfl⟩
            go_wp2_with fail
            go_meet
            exact ⟨by rw [EH.out]; simp (disch := omega) [*] <;> omega, is_ext _ _⟩
          · have k4 : decide (t.hash < 1) = false := decide_eq_false h4
            by_cases h5 : 3000 < t.hash
            · have h5' : ¬ (t.hash ≤ 3000) := by omega
              go_upto_region 3 with (fail)
              refine wp_region_ext (by kernel_rfl) (by kernel_rfl) ?_
              repeat (go_big_quiet_step ((first | (go_at_call 105; exact calls_ext (CC.out _ (X2.out.ext _))))))
              refine wpQuiet_nil ?_
              rintro W3 ⟨xx, rfl⟩
              go_wp2_with fail
              go_meet
              exact ⟨by rw [EH.out]; simp (disch := omega) [*] <;> omega, is_ext _ _⟩
            · have k5 : decide (3000 < t.hash) = false := decide_eq_false h5
              rcases hcp with rfl | ⟨hi0, cp, jw⟩
              · skip
                go_upto_region 3 with (fail)
                refine wp_region_ext (by kernel_rfl) (by kernel_rfl) ?_
                repeat (go_big_quiet_step ((first | (go_at_call 105; exact calls_ext (CC.out _ (X2.out.ext _))))))
                refine wpQuiet_nil ?_
                rintro W3 ⟨xx, rfl⟩
                go_wp2_with fail
                go_meet
                exact ⟨by rw [EH.out]; simp (disch := omega) [*] <;> omega, is_ext _ _⟩
              · by_cases h6 : ph < t.hash
                · skip
                  go_upto_region 3 with (fail)
                  refine wp_region_ext (by kernel_rfl) (by kernel_rfl) ?_
                  repeat (go_big_quiet_step ((first | (go_at_call 105; exact calls_ext (CC.out _ (X2.out.ext _))))))
                  refine wpQuiet_nil ?_
                  rintro W3 ⟨xx, rfl⟩
                  go_wp2_with fail
                  go_meet
                  exact ⟨by rw [EH.out]; simp (disch := omega) [*] <;> omega, is_ext _ _⟩
                · skip
                  go_upto_region 3 with (fail)
                  refine wp_region_ext (by kernel_rfl) (by kernel_rfl) ?_
                  repeat (go_big_quiet_step ((first | (go_at_call 105; exact calls_ext (CC.out _ (X2.out.ext _))))))
                  refine wpQuiet_nil ?_
                  rintro W3 ⟨xx, rfl⟩
                  go_wp2_with fail
                  go_meet
                  exact ⟨by rw [EH.out]; simp (disch := omega) [*] <;> omega, is_ext _ _⟩
      · have k2 : ¬ (t.cls < (n : Int)) := h2
        have k2' : (n : Int) ≤ t.cls := by omega
        go_upto_region 3 with (fail)
        refine wp_region_ext (by kernel_rfl) (by kernel_rfl) ?_
        repeat (go_big_quiet_step ((first | (go_at_call 105; exact calls_ext (CC.out _ (X2.out.ext _))))))
        refine wpQuiet_nil ?_
        rintro W3 ⟨xx, rfl⟩
        go_wp2_with fail
        go_meet
        exact ⟨by rw [EH.out]; simp (disch := omega) [*] <;> omega, is_ext _ _⟩
  case rest =>
    obtain ⟨rfl, xc⟩ := hcut
    have XC := Lib.hid (X2.out.trans xc)
    replace BT2 := Lib.hid (BT2.out.ext xc)
    replace BW2 := Lib.hid (BW2.out.ext xc)
    clear r1 r2 r3 s1 s2 s3 xc hcp
    obtain ⟨r1, r2, r3⟩ := BW2.out.rules
    obtain ⟨s1, s2, s3⟩ := BT2.out.rules
    cases hd with
    | false =>
      go_wp2_with fail
      go_ret
      exact ⟨ret_bool (by rw [E.out]; rfl), XC.out.trans (is_ext _ _)⟩
    | true =>
      rw [Bool.true_and] at E
      rcases FK.out with ⟨f12, EF⟩ | ⟨f3, EF⟩ | ⟨n3, n1, n2, EF⟩
      · rw [EF] at E
        have f3 : (t.fmt == 3) = false := beq_eq_false_iff_ne.2 (by omega)
        clear FK EF CC CL
        have L60 : Hid (∀ q : Bool, (q && (decide (t.F.length ≤ 60) && decide (t.B.size = 0))) = true → True) := Lib.hid (fun _ _ => trivial)
        generalize hnF : t.F.length = nF at *
        have HNF := Lib.hid hnF
        clear hnF L60
        have LOOP : Hid (∀ W2, Ext wc W2 → ∀ k, k < nF → ∃ b off, AFi = some ⟨b, off, none⟩ ∧ b < W2.heap.size ∧ W2.cell? ⟨b, off + k * 2, none⟩ = some (.bool (vAt t.F k).obj) ∧ W2.cell? ⟨b, off + k * 2 + 1, none⟩ = some (.int .i64 (vAt t.F k).n)) := Lib.hid (fun W2 y k hk => by
          have q : Row W2 (.slice AFi nF cF) nF 2 (fun k j => cV (vAt t.F k) j) := by have q := VT.out.ext (XC.out.trans y); have e := HNF.out; unfold ValsAt at q; rw [e] at q; exact q
          obtain ⟨b', off', e', hb', hc'⟩ := Row.at_ q k hk
          exact ⟨b', off', e', hb', hc' 0 (by omega), hc' 1 (by omega)⟩)
        have FIN : Hid ((decide ((nF : Int) ≤ 60) && t.B.toList.isEmpty) = (decide (nF ≤ 60) && decide (t.B.size = 0))) := Lib.hid (by rw [hE]; congr 1; exact decide_eq_decide.2 (by omega))
        rcases f12 with f | f
        all_goals
          rw [f] at s1 f3
          clear f
          go_wp2_with fail
          go_loopw [7] (fun iv wr => ∃ k : Nat, k ≤ nF ∧ iv = .int .i64 k ∧ allTo (fun j => valB W lv (vAt t.F j)) k = true ∧ Ext wc wr) (fun iv _ => nF - (intOf iv).toNat)
          case atStart => exact ⟨0, Nat.zero_le _, rfl, rfl, Ext.refl _⟩
          case round =>
            obtain ⟨k, hk, rfl, ha, xr⟩ := hrel
            have HA := Lib.hid ha
            have XR := Lib.hid (XC.out.trans xr)
            have YR := Lib.hid xr
            have BT3 := Lib.hid (BT2.out.ext xr)
            have BW3 := Lib.hid (BW2.out.ext xr)
            clear r1 r2 r3 s1 s2 s3 ha
            obtain ⟨r1, r2, r3⟩ := BW3.out.rules
            obtain ⟨s1, s2, s3⟩ := BT3.out.rules
            by_cases hlt : k < nF
            · obtain ⟨bF, oF, rfl, hbF, c0, c1⟩ := LOOP.out _ xr k hlt
              have iK : (k : Int) < (nF : Int) := by omega
              have VK := Lib.hid (fun W2 (y : Ext wr W2) => CV.out W2 (XR.out.trans y) (vAt t.F k))
              have YES := Lib.hid (fun hq => AS.out k HA.out hq)
              have NO : Hid (valB W lv (vAt t.F k) = false → refT W i = false) := Lib.hid (fun hq => by rw [E.out, EV.out, AF.out k hlt hq]; rfl)
              replace YES : Hid (valB W lv (vAt t.F k) = true → allTo (fun j => valB W lv (vAt t.F j)) (k + 1) = true) := YES
              generalize valB W lv (vAt t.F k) = vb at *
              generalize vAt t.F k = vk at *
              clear xr
              cases vb with
              | true =>
                go_upto_region 11 with (fail)
                refine wp_region_ext (by kernel_rfl) (by kernel_rfl) ?_
                repeat (go_big_quiet_step ((first | (go_at_call 106; exact calls_ext (VK.out _ ⟨_, rfl⟩)))))
                refine wpQuiet_nil ?_
                rintro W3 ⟨xx, rfl⟩
                go_wp2_with fail
                go_roundw
                case rel => exact ⟨k + 1, by omega, by go_num, YES.out rfl, YR.out.ext _⟩
                case measure => simp [intOf]; omega
              | false =>
                go_upto_region 11 with (fail)
                refine wp_region_ext (by kernel_rfl) (by kernel_rfl) ?_
                repeat (go_big_quiet_step ((first | (go_at_call 106; exact calls_ext (VK.out _ ⟨_, rfl⟩)))))
                refine wpQuiet_nil ?_
                rintro W3 ⟨xx, rfl⟩
                go_wp2_with fail
                go_ret
                exact ⟨ret_bool (by first | exact (NO.out rfl).symm | exact (NO.out trivial).symm), XR.out.trans (is_ext _ _)⟩
            · obtain rfl : k = nF := by omega
              have EE := Lib.hid (show refT W i = (decide (k ≤ 60) && decide (t.B.size = 0)) from by rw [E.out, EV.out, HA.out, Bool.true_and])
              by_cases h60 : (k : Int) ≤ 60
              · rw [decide_eq_true h60, Bool.true_and] at FIN
                go_wp2_with fail
                go_ret
                exact ⟨ret_bool (by rw [EE.out, decide_eq_true (show k ≤ 60 by omega), Bool.true_and]; exact emp_eq _), XR.out.trans (is_ext _ _)⟩
              · rw [decide_eq_false h60, Bool.false_and] at FIN
                go_wp2_with fail
                go_ret
                exact ⟨ret_bool (by rw [EE.out, ← FIN.out]), XR.out.trans (is_ext _ _)⟩
      · rw [f3] at s1
        rw [EF] at E
        have b1 : (t.fmt == 1) = false := by rw [f3]; rfl
        clear FK EF CC CL CV
        have F3 := Lib.hid f3
        clear f3
        generalize t.F.length = nF at *
        by_cases g0 : nF = 0
        · subst g0
          go_wp2_with fail
          go_ret
          exact ⟨ret_bool (by rw [E.out]; simp only [decide_true, Bool.true_and]; exact decide_eq_decide.2 (by omega)), XC.out.trans (is_ext _ _)⟩
        · have z0 : ((nF : Int) == 0) = false := beq_eq_false_iff_ne.2 (by omega)
          go_wp2_with fail
          go_ret
          exact ⟨ret_bool (by rw [E.out, decide_eq_false g0]; rfl), XC.out.trans (is_ext _ _)⟩
      · have b1 : (t.fmt == 1) = false := beq_eq_false_iff_ne.2 n1
        have b2 : (t.fmt == 2) = false := beq_eq_false_iff_ne.2 n2
        have b3 : (t.fmt == 3) = false := beq_eq_false_iff_ne.2 n3
        rw [EF] at E
        clear FK EF n1 n2 n3 CC CL CV
        go_wp2_with fail
        go_ret
        exact ⟨ret_bool (by rw [E.out]), XC.out.trans (is_ext _ _)⟩
end
end Go.Proofs.YtjpalcejmloocaaGreat.World
