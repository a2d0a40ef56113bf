/-
  Contracts of package frame (chapter 14): Go.
-/
import Derived.Test.YtnhijjcplnomgaaGreatFrame4
namespace Go.Proofs.YtnhijjcplnomgaaGreat.World
open Go.RowKit Go.Proofs.YtnhijjcplnomgaaGreat.Plain
set_option linter.unusedVariables false
attribute [local go_sem ↓] Go.wp_at_zero Go.wp_at_succ
namespace MS
def goIn (S : MS) (id pc : Int) : Bool := decide (0 ≤ pc ∧ pc ≤ 60) && S.isFrame id
def goOK (S : MS) (id pc : Int) : Bool := S.goIn id pc && S.setOK id 1 (num pc)
def goTo (S : MS) (id pc : Int) : MS := if S.goIn id pc then S.set id 1 (num pc) else S
end MS
section
variable {w w' w2 : World} {F F' F2 : Nat → Prop} {m : Nat} {S S' : MS} {X : MX}
set_option maxRecDepth 100000 in
set_option maxHeartbeats 2000000 in
theorem fgo (h : M w F m S) (hp : S.phase ≠ 1) (id pc : Int) : Calls Tryz.prog 20 #[.pointer (some ⟨m, 0, none⟩), .int .i64 id, .int .i64 pc] w fun e w' => e = .returned (.bool (S.goOK id pc)) ∧ M w' F m (S.goTo id pc) ∧ Keep F w w' := by
  have C1 := Lib.hid (fun W [x : IsExt w W] => fis (h.ext x.out) id)
  have C4 := Lib.hid (fun W [x : IsExt w W] => mset (h.ext x.out) hp id 1 (num pc))
  have HH := Lib.hid h
  have E : Hid (S.goOK id pc = (S.goIn id pc && S.setOK id 1 (num pc))) := Lib.hid rfl
  have EV : Hid (S.goTo id pc = if S.goIn id pc then S.set id 1 (num pc) else S) := Lib.hid rfl
  have EI : Hid (S.goIn id pc = (decide (0 ≤ pc ∧ pc ≤ 60) && S.isFrame id)) := Lib.hid rfl
  clear h
  unfold val num at *
  generalize S.goOK id pc = res at *
  generalize S.goTo id pc = P at *
  by_cases hq : S.goIn id pc = true
  · rw [hq] at E EV EI
    have ha : (0 ≤ pc ∧ pc ≤ 60) ∧ S.isFrame id = true := by
      have := EI.out.symm
      simp only [Bool.and_eq_true, decide_eq_true_eq] at this
      exact this
    obtain ⟨⟨h0, h60⟩, hf⟩ := ha
    rw [hf] at C1
    clear hf hq EI
    go_enter Tryz.func20, Tryz.ntmps20
    go_wp2_with (first | (go_at_call 39; refine (C1.out _).mono ?_; rintro e w2 ⟨rfl, x2⟩; obtain ⟨y, rfl⟩ := Ext.trans (is_ext w _) x2; clear x2))
    refine (C4.out _).mono ?_
    rintro e w3 ⟨rfl, m3, k3⟩
    have K3 := Lib.hid ((Keep.of_ext (is_ext w _) F).trans k3)
    have M3 := Lib.hid m3
    clear m3 k3 C4 C1
    go_wp2_with fail
    go_ret
    exact ⟨ret_bool (by rw [E.out]; rfl), by rw [EV.out]; exact M3.out, K3.out⟩
  · have hq : S.goIn id pc = false := by simpa using hq
    rw [hq] at E EV EI
    have hn : S.isFrame id = true → 0 ≤ pc → ¬ pc ≤ 60 := fun a b c => by
      have := EI.out
      rw [a, decide_eq_true ⟨b, c⟩] at this; cases this
    have HN := Lib.hid hn
    have er : res = false := E.out
    have ep : P = S := EV.out
    subst er ep
    clear hq E EV EI hn C4
    generalize P.isFrame id = fr at *
    go_enter Tryz.func20, Tryz.ntmps20
    go_wp2_with (first | (go_at_call 39; refine (C1.out _).mono ?_; rintro e w2 ⟨rfl, x2⟩; obtain ⟨y, rfl⟩ := Ext.trans (is_ext w _) x2; clear x2))
    all_goals first
      | (exfalso; have := HN.out (by assumption) (by omega); omega)
      | (go_ret
         exact ⟨ret_bool (by first | rfl | simp_all), HH.out.ext (is_ext _ _), Keep.of_ext (is_ext _ _) _⟩)
end
end Go.Proofs.YtnhijjcplnomgaaGreat.World
