/-
  RefSpec, as one text (a claim has at most 60 files).
-/
import Derived.Test.YtjpalcejmloocaaGreatVq46
namespace Go.Proofs.YtjpalcejmloocaaGreat.World
open Go.RowKit Go.Proofs.YtjpalcejmloocaaGreat.Plain
set_option linter.unusedVariables false
attribute [local go_sem ↓] Go.wp_at_zero Go.wp_at_succ
def rspecB (W : PW) (i : Nat) : Bool := liveB W i && spec1B W i
section
variable {w : World} {x : WV} {W : PW}
set_option maxRecDepth 100000 in
set_option maxHeartbeats 4000000 in
theorem rspecials (h : WorldAt w x W) (hn23 : 23 ≤ W.L.length) : Calls Tryz.prog 79 #[.agg (cellsW W x)] w fun e w' => e = .returned (.bool (allTo (rspecB W) 23)) ∧ Ext w w' := by
  have CL := Lib.hid (fun W2 (y : Ext w W2) (i : Nat) => rlive (h.ext y) (i : Int))
  have AF := Lib.hid (allTo_false (rspecB W) 23)
  have AS := Lib.hid (allTo_succ (rspecB W))
  have ER : Hid (∀ i, rspecB W i = (liveB W i && spec1B W i)) := Lib.hid (fun _ => rfl)
  have EO : Hid (∀ i, spec1B W i = (if i ≤ 2 then decide ((tAt W.L i).cls = 3 + i) else if i ≤ 18 then decide ((tAt W.L i).cls = 10) else if i < 22 then decide ((tAt W.L i).fmt = 3) else decide ((tAt W.L i).fmt = 1))) := Lib.hid (fun _ => rfl)
  obtain ⟨vL, fs, vD, vRe, vWa, vDu, vSn⟩ := x
  obtain ⟨AL, cL, e1, l1, l2⟩ := h.L.row.form
  have e1 : vL = .slice AL W.L.length cL := e1
  subst e1
  have HC := Lib.hid (fun (j : Nat) (hj : j < W.L.length) => h.L.cells rfl j hj)
  unfold cellsW at CL ⊢
  clear h
  generalize hn : W.L.length = n at *
  clear hn
  have n23 := Lib.hid hn23
  clear hn23
  go_enter Tryz.func79, Tryz.ntmps79
  go_wp2_with fail
  refine wp_name (fun W0 hW => ?_)
  have BW := Blk.new' hW
  have X0 := (Ext.refl w).alloc' hW
  clear hW
  have BB := Lib.hid BW
  have XX := Lib.hid X0
  clear BW X0
  go_loopw [3] (fun iv wr => ∃ i : Nat, i ≤ 23 ∧ iv = .int .i64 i ∧ allTo (rspecB W) i = true ∧ Ext W0 wr) (fun iv _ => 23 - (intOf iv).toNat)
  case atStart => exact ⟨0, Nat.zero_le _, rfl, rfl, Ext.refl _⟩
  case round =>
    obtain ⟨i, hi, rfl, ha, xr⟩ := hrel
    have HA := Lib.hid ha
    have X := Lib.hid xr
    have XA := Lib.hid (XX.out.trans xr)
    have B3 := Lib.hid (BB.out.ext xr)
    obtain ⟨r1, r2, r3⟩ := B3.out.rules
    clear ha xr
    by_cases hlt : i < 23
    · obtain ⟨b, off, rfl, hb, d0, d1, d2, d3, d4, d5⟩ := HC.out i (by have := n23.out; omega)
      replace d0 := (XA.out.below.cell (p := ⟨b, off + i * 6, none⟩) hb).trans d0
      replace d1 := (XA.out.below.cell (p := ⟨b, off + i * 6 + 1, none⟩) hb).trans d1
      have hbr := Nat.lt_of_lt_of_le hb XA.out.below.size
      have iI : (i : Int) < 23 := by omega
      have iN : (i : Int) < (n : Int) := by have := n23.out; omega
      have CI := Lib.hid (fun W2 (y : Ext wr W2) => CL.out W2 (XA.out.trans y) i)
      have ES := Lib.hid (EO.out i)
      have BAD : Hid (rspecB W i = false → allTo (rspecB W) 23 = false) := Lib.hid (fun hf => AF.out i hlt hf)
      have YES : Hid (rspecB W i = true → allTo (rspecB W) (i + 1) = true) := Lib.hid (fun hf => AS.out i HA.out hf)
      have EI := Lib.hid (ER.out i)
      clear d2 d3 d4 d5 hb
      generalize tAt W.L i = t at *
      generalize hli : liveB W i = li at *
      clear hli
      have kind : i ≤ 2 ∨ (2 < i ∧ i ≤ 18) ∨ (18 < i ∧ i < 22) ∨ 22 ≤ i := by omega
      rcases kind with h2 | h2 | h2 | h2
      · have e1 : spec1B W i = (t.cls == 3 + (i : Int)) := by rw [ES.out, if_pos h2]; rfl
        rw [e1] at EI
        have EH := Lib.hid e1
        clear e1 ES
        have i3 : (i : Int) < 3 := by omega
        have i19 : (i : Int) < 19 := by omega
        have k1 : decide (19 ≤ (i : Int)) = false := decide_eq_false (by omega)
        have k2 : ((i : Int) == 22) = false := beq_eq_false_iff_ne.2 (by omega)
        cases li with
        | false =>
          have BD := Lib.hid (BAD.out (by rw [EI.out]; rfl))
          clear BAD YES EI
          go_wp2_with fail
          refine (CI.out _ (is_ext _ _)).mono ?_
          rintro e w2 ⟨rfl, x2⟩; obtain ⟨y, rfl⟩ := x2; try rw [ext_ext]
          go_wp2_with fail
          go_ret
          exact ⟨ret_bool BD.out.symm, XA.out.trans (is_ext _ _)⟩
        | true =>
          rw [Bool.true_and] at EI
          cases hq : (t.cls == 3 + (i : Int)) with
          | false =>
            have BD := Lib.hid (BAD.out (by rw [EI.out, hq]))
            have hqm : (t.cls != 3 + (i : Int)) = true := by unfold bne; rw [hq]; rfl
            clear BAD YES EI
            go_wp2_with fail
            refine (CI.out _ (is_ext _ _)).mono ?_
            rintro e w2 ⟨rfl, x2⟩; obtain ⟨y, rfl⟩ := x2; try rw [ext_ext]
            go_wp2_with fail
            go_ret
            exact ⟨ret_bool BD.out.symm, XA.out.trans (is_ext _ _)⟩
          | true =>
            have AN := Lib.hid (YES.out (by rw [EI.out, hq]))
            have hqm : (t.cls != 3 + (i : Int)) = false := by unfold bne; rw [hq]; rfl
            clear BAD YES EI
            go_wp2_with fail
            refine (CI.out _ (is_ext _ _)).mono ?_
            rintro e w2 ⟨rfl, x2⟩; obtain ⟨y, rfl⟩ := x2; try rw [ext_ext]
            go_wp2_with fail
            go_roundw
            case rel => exact ⟨_, by omega, by go_num, AN.out, X.out.trans (is_ext _ _)⟩
            case measure => simp [intOf] <;> omega
      · have e1 : spec1B W i = (t.cls == 10) := by rw [ES.out, if_neg (by omega), if_pos h2.2]; rfl
        rw [e1] at EI
        have EH := Lib.hid e1
        clear e1 ES
        have i3 : 3 ≤ (i : Int) := by omega
        have i19 : (i : Int) < 19 := by omega
        have k1 : decide (19 ≤ (i : Int)) = false := decide_eq_false (by omega)
        have k2 : ((i : Int) == 22) = false := beq_eq_false_iff_ne.2 (by omega)
        cases li with
        | false =>
          have BD := Lib.hid (BAD.out (by rw [EI.out]; rfl))
          clear BAD YES EI
          go_wp2_with fail
          refine (CI.out _ (is_ext _ _)).mono ?_
          rintro e w2 ⟨rfl, x2⟩; obtain ⟨y, rfl⟩ := x2; try rw [ext_ext]
          go_wp2_with fail
          go_ret
          exact ⟨ret_bool BD.out.symm, XA.out.trans (is_ext _ _)⟩
        | true =>
          rw [Bool.true_and] at EI
          cases hq : (t.cls == 10) with
          | false =>
            have BD := Lib.hid (BAD.out (by rw [EI.out, hq]))
            have hqm : (t.cls != 10) = true := by unfold bne; rw [hq]; rfl
            clear BAD YES EI
            go_wp2_with fail
            refine (CI.out _ (is_ext _ _)).mono ?_
            rintro e w2 ⟨rfl, x2⟩; obtain ⟨y, rfl⟩ := x2; try rw [ext_ext]
            go_wp2_with fail
            go_ret
            exact ⟨ret_bool BD.out.symm, XA.out.trans (is_ext _ _)⟩
          | true =>
            have AN := Lib.hid (YES.out (by rw [EI.out, hq]))
            have hqm : (t.cls != 10) = false := by unfold bne; rw [hq]; rfl
            clear BAD YES EI
            go_wp2_with fail
            refine (CI.out _ (is_ext _ _)).mono ?_
            rintro e w2 ⟨rfl, x2⟩; obtain ⟨y, rfl⟩ := x2; try rw [ext_ext]
            go_wp2_with fail
            go_roundw
            case rel => exact ⟨_, by omega, by go_num, AN.out, X.out.trans (is_ext _ _)⟩
            case measure => simp [intOf] <;> omega
      · have e1 : spec1B W i = (t.fmt == 3) := by rw [ES.out, if_neg (by omega), if_neg (by omega), if_pos h2.2]; rfl
        rw [e1] at EI
        have EH := Lib.hid e1
        clear e1 ES
        have i3 : 3 ≤ (i : Int) := by omega
        have i19 : 19 ≤ (i : Int) := by omega
        have i21 : (i : Int) ≤ 21 := by omega
        have k2 : ((i : Int) == 22) = false := beq_eq_false_iff_ne.2 (by omega)
        cases li with
        | false =>
          have BD := Lib.hid (BAD.out (by rw [EI.out]; rfl))
          clear BAD YES EI
          go_wp2_with fail
          refine (CI.out _ (is_ext _ _)).mono ?_
          rintro e w2 ⟨rfl, x2⟩; obtain ⟨y, rfl⟩ := x2; try rw [ext_ext]
          go_wp2_with fail
          go_ret
          exact ⟨ret_bool BD.out.symm, XA.out.trans (is_ext _ _)⟩
        | true =>
          rw [Bool.true_and] at EI
          cases hq : (t.fmt == 3) with
          | false =>
            have BD := Lib.hid (BAD.out (by rw [EI.out, hq]))
            have hqm : (t.fmt != 3) = true := by unfold bne; rw [hq]; rfl
            clear BAD YES EI
            go_wp2_with fail
            refine (CI.out _ (is_ext _ _)).mono ?_
            rintro e w2 ⟨rfl, x2⟩; obtain ⟨y, rfl⟩ := x2; try rw [ext_ext]
            go_wp2_with fail
            go_ret
            exact ⟨ret_bool BD.out.symm, XA.out.trans (is_ext _ _)⟩
          | true =>
            have AN := Lib.hid (YES.out (by rw [EI.out, hq]))
            have hqm : (t.fmt != 3) = false := by unfold bne; rw [hq]; rfl
            clear BAD YES EI
            go_wp2_with fail
            refine (CI.out _ (is_ext _ _)).mono ?_
            rintro e w2 ⟨rfl, x2⟩; obtain ⟨y, rfl⟩ := x2; try rw [ext_ext]
            go_wp2_with fail
            go_roundw
            case rel => exact ⟨_, by omega, by go_num, AN.out, X.out.trans (is_ext _ _)⟩
            case measure => simp [intOf] <;> omega
      · have e1 : spec1B W i = (t.fmt == 1) := by rw [ES.out, if_neg (by omega), if_neg (by omega), if_neg (by omega)]; rfl
        obtain rfl : i = 22 := by omega
        rw [e1] at EI
        have EH := Lib.hid e1
        clear e1 ES
        cases li with
        | false =>
          have BD := Lib.hid (BAD.out (by rw [EI.out]; rfl))
          clear BAD YES EI
          go_wp2_with fail
          refine (CI.out _ (is_ext _ _)).mono ?_
          rintro e w2 ⟨rfl, x2⟩; obtain ⟨y, rfl⟩ := x2; try rw [ext_ext]
          go_wp2_with fail
          go_ret
          exact ⟨ret_bool BD.out.symm, XA.out.trans (is_ext _ _)⟩
        | true =>
          rw [Bool.true_and] at EI
          cases hq : (t.fmt == 1) with
          | false =>
            have BD := Lib.hid (BAD.out (by rw [EI.out, hq]))
            have hqm : (t.fmt != 1) = true := by unfold bne; rw [hq]; rfl
            clear BAD YES EI
            go_wp2_with fail
            refine (CI.out _ (is_ext _ _)).mono ?_
            rintro e w2 ⟨rfl, x2⟩; obtain ⟨y, rfl⟩ := x2; try rw [ext_ext]
            go_wp2_with fail
            go_ret
            exact ⟨ret_bool BD.out.symm, XA.out.trans (is_ext _ _)⟩
          | true =>
            have AN := Lib.hid (YES.out (by rw [EI.out, hq]))
            have hqm : (t.fmt != 1) = false := by unfold bne; rw [hq]; rfl
            clear BAD YES EI
            go_wp2_with fail
            refine (CI.out _ (is_ext _ _)).mono ?_
            rintro e w2 ⟨rfl, x2⟩; obtain ⟨y, rfl⟩ := x2; try rw [ext_ext]
            go_wp2_with fail
            go_roundw
            case rel => exact ⟨_, by omega, by go_num, AN.out, X.out.trans (is_ext _ _)⟩
            case measure => simp [intOf] <;> omega
    · obtain rfl : i = 23 := by omega
      go_wp2_with fail
      go_ret
      exact ⟨ret_bool HA.out.symm, XA.out⟩
end
end Go.Proofs.YtjpalcejmloocaaGreat.World
