/-
  A region in the order of its text, walked by the cheap quiet steps: reads, calls whose contracts end in Ext.
-/
import Derived.Test.YtadhkmplhgcgkaaExt
namespace Go.Proofs.Ytadhkmplhgcgkaa.Plain
open Go.RowKit
theorem wpList_of_quiet {P : Program} {ops : Array Oper} {C : World → Prop} {Q : Act → Prop} {Q' : Exit → Act → World → Prop} (hQ : ∀ a w, C w → Q a → Q' .normal a w) :
    ∀ (l : List Oper) (a : Act) (w : World), C w → wpQuiet P ops C Q l a → wpList P ops Q' l a w
  | [], a, w, hw, h => hQ a w hw h
  | o :: l, a, w, hw, h => by
    unfold wpQuiet at h
    unfold wpList
    by_cases hx : Region.wanted o (yielded ops a.tmps) = true
    · rw [if_pos hx] at h ⊢
      exact .inl (Oper.wp_of_quiet hw (fun a' w' hw' h' => wpList_of_quiet hQ l a' w' hw' h') h)
    · rw [if_neg hx] at h ⊢
      exact wpList_of_quiet hQ l _ w hw h
theorem wp_region_fixed {P : Program} {id : Nat} {Q : Exit → Act → World → Prop} {a : Act} {w : World} {l : List Oper}
    (h : wpQuiet P l.toArray (fun w' => ∃ x, w' = ext w x) (fun a' => ∀ w', (∃ x, w' = ext w x) → Q .normal a' w') l a) : (Code.region id l.toArray false).wp P Q a w :=
  wp_region_lit (wpList_of_quiet (Q := fun a' => ∀ w', (∃ x, w' = ext w x) → Q .normal a' w') (fun _ w' hw' h => h w' hw') l a w (Ext.refl w) h)
end Go.Proofs.Ytadhkmplhgcgkaa.Plain
