/-
  Contracts of colloquyref07 (the document's own answer): Live, num, Class, val.
-/
import Derived.Test.YtadhkmplhgcgkaaImage4
namespace Go.Proofs.Ytadhkmplhgcgkaa.World
open Go.RowKit Go.Proofs.Ytadhkmplhgcgkaa.Plain
set_option linter.unusedVariables false
attribute [local go_sem ↓] Go.wp_at_zero Go.wp_at_succ
section
variable {w : World} {x : WV} {W : PW}
set_option maxRecDepth 100000 in
set_option maxHeartbeats 1000000 in
theorem rlive (h : WorldAt w x W) (at_ : Int) : Calls Try.prog 28 #[.agg (cellsW W x), .int .i64 at_] w fun e w' => e = .returned (.bool (liveB W at_)) ∧ Ext w w' := by
  obtain ⟨vL, fs, vD, vRe, vWa, vDu, vSn⟩ := x
  obtain ⟨AL, cL, e1, l1, l2⟩ := h.L.row.form
  obtain ⟨AD, cD, e2, l3, l4⟩ := Row.form h.dead
  have e1 : vL = .slice AL W.L.length cL := e1
  have e2 : vD = .slice AD W.dead.length cD := e2
  subst e1 e2
  have HD : BoolsAt w (.slice AD W.dead.length cD) W.dead := h.dead
  have E : Hid (liveB W at_ = (decide (0 ≤ at_ ∧ at_ < W.L.length) && !(W.dead.getD at_.toNat false))) := rfl
  unfold cellsW
  by_cases h1 : 0 ≤ at_
  · by_cases h2 : at_ < (W.L.length : Int)
    · obtain ⟨k, rfl⟩ := Int.eq_ofNat_of_zero_le h1
      rw [decide_eq_true ⟨h1, h2⟩, Int.toNat_natCast] at E
      by_cases h3 : W.dead.length ≤ k
      · have e3 : Hid (W.dead.getD k false = false) := Lib.hid (by rw [List.getD_eq_getElem?_getD, List.getElem?_eq_none h3]; rfl)
        have d3 : ((W.dead.length : Int) ≤ (k : Int)) := by omega
        clear h HD h3
        generalize W.L.length = n at *
        generalize W.dead.length = m at *
        go_enter Try.func28, Try.ntmps28
        go_wp2
        go_ret
        exact ⟨ret_bool (by rw [E.out, e3.out]; rfl), (Ext.refl _).alloc _⟩
      · obtain ⟨b, off, rfl, hb, hc⟩ := Row.at_ HD k (by omega)
        have c1 := hc 0 (by omega)
        have c1 : w.cell? ⟨b, off + k, none⟩ = some (.bool (W.dead.getD k false)) := by simpa using c1
        have h4 : (k : Int) < (W.dead.length : Int) := by omega
        clear h HD h3 hc
        generalize W.L.length = n at *
        generalize W.dead.length = m at *
        generalize W.dead.getD k false = q at *
        go_enter Try.func28, Try.ntmps28
        go_wp2
        go_ret
        exact ⟨ret_bool (by rw [E.out, decide_eq_false (by omega), Bool.false_or, Bool.true_and]), (Ext.refl _).alloc _⟩
    · have E2 : Hid (liveB W at_ = false) := Lib.hid (by rw [E.out, decide_eq_false (by omega), Bool.false_and])
      have d1 : decide (at_ < (W.L.length : Int)) = false := decide_eq_false h2
      clear h HD E
      generalize W.L.length = n at *
      go_enter Try.func28, Try.ntmps28
      go_wp2
      go_ret
      exact ⟨ret_bool (by rw [E2.out]), (Ext.refl _).alloc _⟩
  · have E2 : Hid (liveB W at_ = false) := Lib.hid (by rw [E.out, decide_eq_false (by omega), Bool.false_and])
    have d1 : decide (0 ≤ at_) = false := decide_eq_false h1
    clear h HD E
    go_enter Try.func28, Try.ntmps28
    go_wp2
    go_ret
    exact ⟨ret_bool (by rw [E2.out]), (Ext.refl _).alloc _⟩
set_option maxRecDepth 100000 in
set_option maxHeartbeats 1000000 in
theorem rnum (v : PV) (lo hi : Int) : Calls Try.prog 104 #[.agg #[.bool v.obj, .int .i64 v.n], .int .i64 lo, .int .i64 hi] w fun e w' => e = .returned (.bool (numB v lo hi)) ∧ Ext w w' := by
  obtain ⟨o, n⟩ := v
  show Calls _ _ _ _ fun e w' => e = .returned (.bool (!o && decide (lo ≤ n ∧ n ≤ hi))) ∧ Ext w w'
  by_cases h1 : lo ≤ n
  · by_cases h2 : n ≤ hi
    · rw [decide_eq_true ⟨h1, h2⟩]
      cases o <;>
      · go_enter Try.func104, Try.ntmps104
        go_wp2
        go_ret
        exact ⟨ret_bool (by simp), (Ext.refl _).alloc _⟩
    · rw [decide_eq_false (fun c => h2 c.2)]
      cases o <;>
      · go_enter Try.func104, Try.ntmps104
        go_wp2
        go_ret
        exact ⟨ret_bool (by simp <;> omega), (Ext.refl _).alloc _⟩
  · rw [decide_eq_false (fun c => h1 c.1)]
    cases o <;>
    · go_enter Try.func104, Try.ntmps104
      go_wp2
      go_ret
      exact ⟨ret_bool (by simp <;> omega), (Ext.refl _).alloc _⟩
end
end Go.Proofs.Ytadhkmplhgcgkaa.World
