/-
  Contracts of colloquyref07 (the document's own answer): places, unlike.
-/
import Derived.Test.YtadhkmplhgcgkaaRefSpec
namespace Go.Proofs.Ytadhkmplhgcgkaa.World
open Go.RowKit Go.Proofs.Ytadhkmplhgcgkaa.Plain
set_option linter.unusedVariables false
attribute [local go_sem ↓] Go.wp_at_zero Go.wp_at_succ
section
variable {w : World} {x : WV} {W : PW}
set_option maxRecDepth 100000 in
set_option maxHeartbeats 4000000 in
theorem rplaces (h : WorldAt w x W) {v : Value} {l : List Int} (hl : IntsAt w v l) (most : Int) : Calls Try.prog 81 #[.agg (cellsW W x), v, .int .i64 most] w fun e w' => e = .returned (.bool (thereL W l && decide ((l.length : Int) ≤ most))) ∧ Ext w w' := by
  have CL := Lib.hid (fun W2 (y : Ext w W2) (a : Int) => rlive (h.ext y) a)
  have AF := Lib.hid (allTo_false (fun j => thereB W (l.getD j 0)) l.length)
  have AS := Lib.hid (allTo_succ (fun j => thereB W (l.getD j 0)))
  have ET : Hid (∀ j, thereB W j = (!decide (j = 0) && liveB W j)) := Lib.hid (fun _ => rfl)
  have E : Hid (thereL W l = allTo (fun j => thereB W (l.getD j 0)) l.length) := rfl
  obtain ⟨vL, fs, vD, vRe, vWa, vDu, vSn⟩ := x
  obtain ⟨A, cp, e1, l1, l2⟩ := Row.form hl
  have e1 : v = .slice A l.length cp := e1
  subst e1
  have HI : Hid (∀ j, j < l.length → ∃ b off, A = some ⟨b, off, none⟩ ∧ b < w.heap.size ∧ w.cell? ⟨b, off + j, none⟩ = some (.int .i64 (l.getD j 0))) := Lib.hid (fun j hj => by
    obtain ⟨b, off, e, hb, hc⟩ := Row.at_ hl j hj
    have c := hc 0 (by omega)
    exact ⟨b, off, e, hb, by simpa using c⟩)
  unfold cellsW at CL ⊢
  clear h hl
  generalize hn : l.length = n at *
  clear hn
  go_enter Try.func81, Try.ntmps81
  go_wp2_with fail
  refine wp_name (fun W0 hW => ?_)
  have BW := Blk.new' hW
  have X0 := (Ext.refl w).alloc' hW
  clear hW
  have BB := Lib.hid BW
  have XX := Lib.hid X0
  clear BW X0
  go_loopw [7] (fun iv wr => ∃ i : Nat, i ≤ n ∧ iv = .int .i64 i ∧ allTo (fun j => thereB W (l.getD j 0)) i = true ∧ Ext W0 wr) (fun iv _ => n - (intOf iv).toNat)
  case atStart => exact ⟨0, Nat.zero_le _, rfl, rfl, Ext.refl _⟩
  case round =>
    obtain ⟨i, hi, rfl, ha, xr⟩ := hrel
    have HA := Lib.hid ha
    have X := Lib.hid xr
    have XA := Lib.hid (XX.out.trans xr)
    have B3 := Lib.hid (BB.out.ext xr)
    obtain ⟨r1, r2, r3⟩ := B3.out.rules
    clear ha xr
    by_cases hlt : i < n
    · obtain ⟨b, off, rfl, hb, c0⟩ := HI.out i hlt
      replace c0 := (XA.out.below.cell (p := ⟨b, off + i, none⟩) hb).trans c0
      have hbr := Nat.lt_of_lt_of_le hb XA.out.below.size
      have iN : (i : Int) < (n : Int) := by omega
      have BAD : Hid (thereB W (l.getD i 0) = false → thereL W l = false) := Lib.hid (fun hf => by rw [E.out]; exact AF.out i hlt hf)
      have YES : Hid (thereB W (l.getD i 0) = true → allTo (fun j => thereB W (l.getD j 0)) (i + 1) = true) := Lib.hid (fun hf => AS.out i HA.out hf)
      have EI := Lib.hid (ET.out (l.getD i 0))
      generalize l.getD i 0 = a at *
      have CI := Lib.hid (fun W2 (y : Ext wr W2) => CL.out W2 (XA.out.trans y) a)
      generalize hla : liveB W a = la at *
      clear hla hb
      by_cases h0 : a = 0
      · subst h0
        have BD := Lib.hid (BAD.out (by rw [EI.out]; rfl))
        clear BAD YES EI
        go_wp2_with fail
        refine wp_region_ext (by kernel_rfl) (by kernel_rfl) ?_
        repeat (go_big_quiet_step (fail))
        refine wpQuiet_nil ?_
        rintro W3 ⟨xx, rfl⟩
        go_wp2_with fail
        go_ret
        exact ⟨ret_bool (by rw [BD.out]; rfl), XA.out.trans (is_ext _ _)⟩
      · have k0 : (a == 0) = false := beq_eq_false_iff_ne.2 h0
        cases la with
        | false =>
          have BD := Lib.hid (BAD.out (by rw [EI.out, Bool.and_false]))
          clear BAD YES EI h0
          go_wp2_with fail
          refine wp_region_ext (by kernel_rfl) (by kernel_rfl) ?_
          repeat (go_big_quiet_step ((first | (go_at_call 28; exact calls_ext (CI.out _ ⟨_, rfl⟩)))))
          refine wpQuiet_nil ?_
          rintro W3 ⟨xx, rfl⟩
          go_wp2_with fail
          go_ret
          exact ⟨ret_bool (by rw [BD.out]; rfl), XA.out.trans (is_ext _ _)⟩
        | true =>
          have AN := Lib.hid (YES.out (by rw [EI.out, decide_eq_false h0]; rfl))
          clear BAD YES EI h0
          go_wp2_with fail
          refine wp_region_ext (by kernel_rfl) (by kernel_rfl) ?_
          repeat (go_big_quiet_step ((first | (go_at_call 28; exact calls_ext (CI.out _ ⟨_, rfl⟩)))))
          refine wpQuiet_nil ?_
          rintro W3 ⟨xx, rfl⟩
          go_wp2_with fail
          go_roundw
          case rel => exact ⟨i + 1, by omega, by go_num, AN.out, X.out.trans (is_ext _ _)⟩
          case measure => simp [intOf]; omega
    · obtain rfl : i = n := by omega
      go_wp2_with fail
      go_ret
      exact ⟨ret_bool (by rw [E.out, HA.out, Bool.true_and]), XA.out⟩
end
end Go.Proofs.Ytadhkmplhgcgkaa.World
