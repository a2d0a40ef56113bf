/-
  Chapter 5's reference (colloquyref05): what Make refuses (printed by gen_rmakebad.py).
-/
import Derived.Test.YtjpalcejmloocaaRefHeap7
namespace Go.Proofs.Ytjpalcejmloocaa.RefHeap
open Go.RowKit Go.Proofs.Ytjpalcejmloocaa.Plain Go.Proofs.Ytjpalcejmloocaa.Free Go.Proofs.Ytjpalcejmloocaa.Heap Go.Proofs.Ytjpalcejmloocaa.RefFree
set_option linter.unusedVariables false
set_option maxRecDepth 100000 in
set_option maxHeartbeats 8000000 in
theorem rmake_bad (w : World) (h : Nat) (fmt n cls hash : Int) (hb : badB fmt n cls hash = true) :
    Calls Try.prog 9 #[.pointer (some ⟨h, 0, none⟩), .int .i64 fmt, .int .i64 n, .int .i64 cls, .int .i64 hash] w fun e w' => e = .returned (.tuple #[.int .i64 0, .bool false]) ∧ Ext w w' := by
  have HB := Lib.hid (show fmt < 1 ∨ 3 < fmt ∨ n < 0 ∨ mostI fmt < n ∨ cls < 0 ∨ 65536 < cls ∨ hash < 0 ∨ 3000 < hash from by unfold badB at hb; exact of_decide_eq_true hb)
  clear hb
  have M3 := Lib.hid (show mostI fmt = if fmt = 3 then 200 else 60 from rfl)
  go_enter Try.func9, Try.ntmps9
  by_cases hf : fmt = 3
  · subst hf
    have w3 : Int.tdiv (n + 3) 4 = Int.tdiv (n + 3) 4 := rfl
    by_cases h6 : n < 0
    · go_wp2_with fail
      go_ret2
      exact ⟨rfl, Ext.refl _⟩
    · skip
      by_cases h5 : 200 < n
      · go_wp2_with fail
        go_ret2
        exact ⟨rfl, Ext.refl _⟩
      · skip
        by_cases h4 : cls < 0
        · go_wp2_with fail
          go_ret2
          exact ⟨rfl, Ext.refl _⟩
        · skip
          by_cases h3 : 65536 < cls
          · go_wp2_with fail
            go_ret2
            exact ⟨rfl, Ext.refl _⟩
          · skip
            by_cases h2 : hash < 0
            · go_wp2_with fail
              go_ret2
              exact ⟨rfl, Ext.refl _⟩
            · skip
              have hq : 3000 < hash := by have := HB.out; have := M3.out; split at this <;> omega
              go_wp2_with fail
              go_ret2
              exact ⟨rfl, Ext.refl _⟩
  · have df : (fmt == 3) = false := beq_eq_false_iff_ne.2 hf
    by_cases h8 : fmt < 1
    · go_wp2_with fail
      go_ret2
      exact ⟨rfl, Ext.refl _⟩
    · skip
      by_cases h7 : 3 < fmt
      · go_wp2_with fail
        go_ret2
        exact ⟨rfl, Ext.refl _⟩
      · skip
        by_cases h6 : n < 0
        · go_wp2_with fail
          go_ret2
          exact ⟨rfl, Ext.refl _⟩
        · skip
          by_cases h5 : 60 < n
          · go_wp2_with fail
            go_ret2
            exact ⟨rfl, Ext.refl _⟩
          · skip
            by_cases h4 : cls < 0
            · go_wp2_with fail
              go_ret2
              exact ⟨rfl, Ext.refl _⟩
            · skip
              by_cases h3 : 65536 < cls
              · go_wp2_with fail
                go_ret2
                exact ⟨rfl, Ext.refl _⟩
              · skip
                by_cases h2 : hash < 0
                · go_wp2_with fail
                  go_ret2
                  exact ⟨rfl, Ext.refl _⟩
                · skip
                  have hq : 3000 < hash := by have := HB.out; have := M3.out; split at this <;> omega
                  go_wp2_with fail
                  go_ret2
                  exact ⟨rfl, Ext.refl _⟩
end Go.Proofs.Ytjpalcejmloocaa.RefHeap
