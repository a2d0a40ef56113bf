/-
  Contracts of package frame (chapter 14): Go.
-/
import Derived.Test.YtnhijjcplnomgaaFrame4
namespace Go.Proofs.Ytnhijjcplnomgaa.World
open Go.RowKit Go.Proofs.Ytnhijjcplnomgaa.Plain
set_option linter.unusedVariables false
attribute [local go_sem ↓] Go.wp_at_zero Go.wp_at_succ
namespace MS
def goIn (S : MS) (id pc : Int) : Bool := decide (0 ≤ pc ∧ pc ≤ 60) && S.isFrame id
def goOK (S : MS) (id pc : Int) : Bool := S.goIn id pc && S.setOK id 1 (num pc)
def goTo (S : MS) (id pc : Int) : MS := if S.goIn id pc then S.set id 1 (num pc) else S
end MS
end Go.Proofs.Ytnhijjcplnomgaa.World
