/-
  PutW, as one text (a claim has at most 60 files).
-/
import Derived.Test.YtjpalcejmloocaaGreatVq30
import Derived.Test.YtjpalcejmloocaaGreatVq26
import Derived.Test.YtjpalcejmloocaaGreatVq22
import Derived.Deep.RegionHeld3
import Derived.Lib.AppendZeros
import Derived.Lib.SlBytesConst
namespace Go.Proofs.YtjpalcejmloocaaGreat.World
open Go.RowKit Go.Proofs.YtjpalcejmloocaaGreat.Plain
set_option linter.unusedVariables false
attribute [local go_sem ↓] Go.wp_at_zero Go.wp_at_succ
section
variable {w : World} {x : WV} {W : PW}
end
end Go.Proofs.YtjpalcejmloocaaGreat.World
