/-
  CycChain, as one text (a claim has at most 60 files).
-/
import Derived.Test.YtjpalcejmloocaaGreatCt44
import Derived.Test.YtjpalcejmloocaaGreatCt46
namespace Go.Proofs.YtjpalcejmloocaaGreat.World
open Go.RowKit Go.Proofs.YtjpalcejmloocaaGreat.Plain
set_option linter.unusedVariables false
attribute [local go_sem ↓] Go.wp_at_zero Go.wp_at_succ
theorem place20 (v : Int) (w : World) : Calls Tryz.prog 6 #[.int .i64 v, .int .i64 20] w fun e w' => ∃ k : Nat, k < 20 ∧ e = .returned (.int .i64 (k : Int)) ∧ Ext w w' := by
  have h1 : -20 < Int.tmod v 20 ∧ Int.tmod v 20 < 20 := by
    have a := Int.tmod_lt_of_pos v (show (0 : Int) < 20 by decide)
    have b : -20 < Int.tmod v 20 := by
      rcases Int.le_total 0 v with h | h
      · have := Int.tmod_nonneg 20 h
        omega
      · obtain ⟨u, rfl⟩ : ∃ u, v = -u := ⟨-v, by omega⟩
        rw [Int.neg_tmod]
        have := Int.tmod_lt_of_pos u (show (0 : Int) < 20 by decide)
        omega
    exact ⟨b, a⟩
  by_cases h0 : Int.tmod v 20 < 0
  · have hk := Lib.hid (show Int.tmod v 20 + 20 = ((Int.tmod v 20 + 20).toNat : Int) by omega)
    have hb : (Int.tmod v 20 + 20).toNat < 20 := by omega
    go_enter Tryz.func6, Tryz.ntmps6
    go_wp2
    all_goals go_ret
    all_goals first
      | exact ⟨_, hb, ret_int hk.out, Ext.refl w⟩
      | (exfalso; omega)
  · have hk := Lib.hid (show Int.tmod v 20 = ((Int.tmod v 20).toNat : Int) by omega)
    have hb : (Int.tmod v 20).toNat < 20 := by omega
    go_enter Tryz.func6, Tryz.ntmps6
    go_wp2
    all_goals go_ret
    all_goals first
      | exact ⟨_, hb, ret_int hk.out, Ext.refl w⟩
      | (exfalso; omega)
theorem chain_len : ∀ k, (chainW k).L.length = 23 + k ∧ (chainW k).last = 23 + k
  | 0 => by decide
  | k + 1 => by
    obtain ⟨h1, h2⟩ := chain_len k
    unfold chainW PW.add
    exact ⟨by simp only [List.length_append, h1]; rfl, by simp only [h2]; omega⟩
end Go.Proofs.YtjpalcejmloocaaGreat.World
