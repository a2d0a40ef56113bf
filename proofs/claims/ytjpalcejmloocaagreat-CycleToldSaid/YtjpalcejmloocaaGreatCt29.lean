/-
  Image7, Reach5, as one text (a claim has at most 60 files).
-/
import Derived.Test.YtjpalcejmloocaaGreatCt28
import Derived.Test.YtjpalcejmloocaaGreatCt22
namespace Go.Proofs.YtjpalcejmloocaaGreat.World
open Go.RowKit Go.Proofs.YtjpalcejmloocaaGreat.Plain
set_option linter.unusedVariables false
attribute [local go_sem ↓] Go.wp_at_zero Go.wp_at_succ

section
variable {w : World} {x : WV} {W : PW}
set_option maxRecDepth 100000 in
set_option maxHeartbeats 4000000 in
theorem check (h : WorldAt w x W) : Calls Tryz.prog 20 #[.agg (cellsW W x)] w fun e w' => e = .returned (.bool (checkB W)) ∧ Ext w w' := by
  have HH := Lib.hid h
  have EC : Hid (checkB W = (decide (23 ≤ W.L.length ∧ W.L.length ≤ 3000) && (decide (W.dead.length = 0 ∨ W.dead.length = W.L.length) && (thingsB W && (specB W && regsB W))))) := rfl
  obtain ⟨vL, fs, vD, vRe, vWa, vDu, vSn⟩ := x
  obtain ⟨A1, c1, e1, l1, l1'⟩ := h.L.row.form
  have e1 : vL = .slice A1 W.L.length c1 := e1
  subst e1
  obtain ⟨A2, c2, e2, l2, l2'⟩ := Row.form h.dead
  have e2 : vD = .slice A2 W.dead.length c2 := e2
  subst e2
  obtain ⟨A3, c3, e3, l3, l3'⟩ := Row.form h.ready
  have e3 : vRe = .slice A3 W.R.ready.length c3 := e3
  subst e3
  obtain ⟨A4, c4, e4, l4, l4'⟩ := Row.form h.wait
  have e4 : vWa = .slice A4 W.R.wait.length c4 := e4
  subst e4
  obtain ⟨A5, c5, e5, l5, l5'⟩ := Row.form h.due
  have e5 : vDu = .slice A5 W.R.due.length c5 := e5
  subst e5
  obtain ⟨A6, c6, e6, l6, l6'⟩ := Row.form h.snaps
  have e6 : vSn = .slice A6 W.R.snaps.length c6 := e6
  subst e6
  clear h
  unfold cellsW
  go_enter Tryz.func20, Tryz.ntmps20
  go_upto_region 3 with (fail)
  refine wp_name (fun W1 hW => ?_)
  have BX := Blk.new' hW
  have X0 := ((Ext.refl w).alloc _).alloc' hW
  simp only [World.size_alloc] at BX
  clear hW
  have H1 := HH.out.ext X0
  obtain ⟨r1, r2, r3⟩ := BX.rules
  by_cases hn : 23 ≤ W.L.length ∧ W.L.length ≤ 3000
  · obtain ⟨hn1, hn2⟩ := hn
    rw [decide_eq_true ⟨hn1, hn2⟩, Bool.true_and] at EC
    by_cases hd : W.dead.length = 0 ∨ W.dead.length = W.L.length
    · rw [decide_eq_true hd, Bool.true_and] at EC
      have CT := Lib.hid (fun w' (e : Ext W1 w') => things (H1.ext e) hd (by omega))
      have CS := Lib.hid (fun w' (e : Ext W1 w') => specials (H1.ext e) hn1)
      have CR := Lib.hid (fun w' (e : Ext W1 w') => regs (H1.ext e) hd)
      unfold cellsW at CT CS CR
      have BB := Lib.hid BX
      have XX := Lib.hid X0
      clear BX X0 H1
      generalize W.L.length = n at *
      generalize W.dead.length = m at *
      cases h1 : thingsB W with
      | false =>
        rw [h1, Bool.false_and] at EC
        rw [h1] at CT
        clear h1
        by_cases hm : m = 0
        · have d0 : ((m : Int) == 0) = true := beq_iff_eq.2 (by omega)
          clear hm hd
          go_wp2_with fail
          refine (CT.out _ (Ext.refl _)).mono ?_
          rintro e w2 ⟨rfl, x2⟩
          go_wp2_with fail
          go_ret
          exact ⟨ret_bool (by rw [EC.out]), XX.out.trans x2⟩
        · have d0 : ((m : Int) == 0) = false := beq_eq_false_iff_ne.2 (by omega)
          have d1 : ((m : Int) == (n : Int)) = true := beq_iff_eq.2 (by omega)
          have d1' : (m == n) = true := beq_iff_eq.2 (by omega)
          clear hm hd
          go_wp2_with fail
          refine (CT.out _ (Ext.refl _)).mono ?_
          rintro e w2 ⟨rfl, x2⟩
          go_wp2_with fail
          go_ret
          exact ⟨ret_bool (by rw [EC.out]), XX.out.trans x2⟩
      | true =>
        rw [h1, Bool.true_and] at EC
        rw [h1] at CT
        clear h1
        cases h2 : specB W with
        | false =>
          rw [h2, Bool.false_and] at EC
          rw [h2] at CS
          clear h2
          by_cases hm : m = 0
          · have d0 : ((m : Int) == 0) = true := beq_iff_eq.2 (by omega)
            clear hm hd
            go_wp2_with fail
            refine (CT.out _ (Ext.refl _)).mono ?_
            rintro e w2 ⟨rfl, x2⟩
            clear r1 r2 r3
            obtain ⟨r1, r2, r3⟩ := (BB.out.ext x2).rules
            go_wp2_with fail
            refine (CS.out _ x2).mono ?_
            rintro e w3 ⟨rfl, x3⟩
            go_wp2_with fail
            go_ret
            exact ⟨ret_bool (by rw [EC.out]), (XX.out.trans x2).trans x3⟩
          · have d0 : ((m : Int) == 0) = false := beq_eq_false_iff_ne.2 (by omega)
            have d1 : ((m : Int) == (n : Int)) = true := beq_iff_eq.2 (by omega)
            have d1' : (m == n) = true := beq_iff_eq.2 (by omega)
            clear hm hd
            go_wp2_with fail
            refine (CT.out _ (Ext.refl _)).mono ?_
            rintro e w2 ⟨rfl, x2⟩
            clear r1 r2 r3
            obtain ⟨r1, r2, r3⟩ := (BB.out.ext x2).rules
            go_wp2_with fail
            refine (CS.out _ x2).mono ?_
            rintro e w3 ⟨rfl, x3⟩
            go_wp2_with fail
            go_ret
            exact ⟨ret_bool (by rw [EC.out]), (XX.out.trans x2).trans x3⟩
        | true =>
          rw [h2, Bool.true_and] at EC
          rw [h2] at CS
          clear h2
          by_cases hm : m = 0
          · have d0 : ((m : Int) == 0) = true := beq_iff_eq.2 (by omega)
            clear hm hd
            go_wp2_with fail
            refine (CT.out _ (Ext.refl _)).mono ?_
            rintro e w2 ⟨rfl, x2⟩
            clear r1 r2 r3
            obtain ⟨r1, r2, r3⟩ := (BB.out.ext x2).rules
            go_wp2_with fail
            refine (CS.out _ x2).mono ?_
            rintro e w3 ⟨rfl, x3⟩
            clear r1 r2 r3
            obtain ⟨r1, r2, r3⟩ := (BB.out.ext (x2.trans x3)).rules
            go_wp2_with fail
            refine (CR.out _ (x2.trans x3)).mono ?_
            rintro e w4 ⟨rfl, x4⟩
            go_wp2_with fail
            go_ret
            exact ⟨ret_bool (by rw [EC.out]), ((XX.out.trans x2).trans x3).trans x4⟩
          · have d0 : ((m : Int) == 0) = false := beq_eq_false_iff_ne.2 (by omega)
            have d1 : ((m : Int) == (n : Int)) = true := beq_iff_eq.2 (by omega)
            have d1' : (m == n) = true := beq_iff_eq.2 (by omega)
            clear hm hd
            go_wp2_with fail
            refine (CT.out _ (Ext.refl _)).mono ?_
            rintro e w2 ⟨rfl, x2⟩
            clear r1 r2 r3
            obtain ⟨r1, r2, r3⟩ := (BB.out.ext x2).rules
            go_wp2_with fail
            refine (CS.out _ x2).mono ?_
            rintro e w3 ⟨rfl, x3⟩
            clear r1 r2 r3
            obtain ⟨r1, r2, r3⟩ := (BB.out.ext (x2.trans x3)).rules
            go_wp2_with fail
            refine (CR.out _ (x2.trans x3)).mono ?_
            rintro e w4 ⟨rfl, x4⟩
            go_wp2_with fail
            go_ret
            exact ⟨ret_bool (by rw [EC.out]), ((XX.out.trans x2).trans x3).trans x4⟩
    · rw [decide_eq_false hd, Bool.false_and] at EC
      have XX := Lib.hid X0
      have d0 : ((W.dead.length : Int) == 0) = false := beq_eq_false_iff_ne.2 (by omega)
      have d1 : ((W.dead.length : Int) == (W.L.length : Int)) = false := beq_eq_false_iff_ne.2 (by omega)
      have d1' : (W.dead.length == W.L.length) = false := beq_eq_false_iff_ne.2 (by omega)
      clear BX X0 H1 hd
      generalize W.L.length = n at *
      generalize W.dead.length = m at *
      go_wp2
      go_ret
      exact ⟨ret_bool (by rw [EC.out]), XX.out⟩
  · rw [decide_eq_false hn, Bool.false_and] at EC
    have XX := Lib.hid X0
    clear BX X0 H1
    generalize W.L.length = n at *
    have HNN := Lib.hid hn
    clear hn
    by_cases h1 : n < 23
    · go_wp2
      go_ret
      exact ⟨ret_bool (by rw [EC.out]), XX.out⟩
    · have h2 : 3000 < n := by have := HNN.out; omega
      go_wp2
      go_ret
      exact ⟨ret_bool (by rw [EC.out]), XX.out⟩
end
end Go.Proofs.YtjpalcejmloocaaGreat.World
namespace Go.Proofs.YtjpalcejmloocaaGreat.World
open Go.RowKit Go.Proofs.YtjpalcejmloocaaGreat.Plain
set_option linter.unusedVariables false
attribute [local go_sem ↓] Go.wp_at_zero Go.wp_at_succ
end Go.Proofs.YtjpalcejmloocaaGreat.World
