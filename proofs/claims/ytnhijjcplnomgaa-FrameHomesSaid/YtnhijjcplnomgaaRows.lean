/-
  No cell of these rows narrows 'for every input' (looked for: loops, veiled, ifaces, maps, wideKeys, modest, calm, conditions, laid).
  DERIVED. THE GIVEN ROWS OF THIS SEAT. 2 by the template 'for every input the law returns true; each argument reads behind the call as it read before'; 0 by the template 'total and deterministic' (their statements: YtnhijjcplnomgaaTotals.lean).
  GIVEN WITH THE SEED: the statements are not yours to turn. If you find one false, say at which input.
  Laid BY PROGRAM, IN A SANDBOX (cutbox-rows.mjs): the forced cells as the released guide's own fill.sh prints them over the translation 3148fc6a88a94cf1… (all of the seat's roots in one cut). By AI agents, Wed Nov 11 2026. No macro, syntax, notation, axiom, sorry.
-/
import Derived.Test.YtnhijjcplnomgaaChecked
import GoSem.Claim
import GoSem.ClaimJoined
import GoSem.ClaimMapViews
import Derived.JoinedTies
import Derived.KernelRfl
namespace Go.Proofs.Ytnhijjcplnomgaa
/- THE CELL 'sum', in the pinned program and in every row, IS THE sha256 OF THE DUMP (.gsa) THAT YtnhijjcplnomgaaProg.lean LOADS. Nothing in Lean hashes anything: it is a label: what it is worth is what the hold of that sum in a sandbox is worth. -/
noncomputable def Try.pinned : Pinned := { name := "ytnhijjcplnomgaa", sum := "3148fc6a88a94cf1b27c5b3a5a34a297d0852987d0e4eddeb1d92af431ea8e23", checked := Try.checked }
namespace Rows
def none {H : Type} : Left H := { results := [], args := [] }

/-- 'colloquylaw14.FrameHomes': WHATEVER THE INPUT: true; the input reads as it did. -/
def frameHomesSpec : ChangeSpec := { name := "frameHomes", fn := fun _ => fun
  | [d1, d2, d3] => { results := [.lit (.bool true)], args := [d1, d2, d3] }
  | _ => none }
def frameHomesRow : OpenClaim := { program := "ytnhijjcplnomgaa", sum := "3148fc6a88a94cf1b27c5b3a5a34a297d0852987d0e4eddeb1d92af431ea8e23", func := "colloquy/colloquylaw14.FrameHomes", spec := "frameHomes", unfollowed := true, recurses := true, apart := false }
def FrameHomesSaid : Prop := frameHomesRow.holds Try.pinned (OpenSpec.ofChange frameHomesSpec)

/-- ITS FALSE NEIGHBOUR: 'it returns false'. Refute it at one input. -/
def frameHomesWrong : ChangeSpec := { name := "frameHomes", fn := fun _ => fun
  | [d1, d2, d3] => { results := [.lit (.bool false)], args := [d1, d2, d3] }
  | _ => none }
def FrameHomesWrongFalsely : Prop := frameHomesRow.holds Try.pinned (OpenSpec.ofChange frameHomesWrong)

/-- 'colloquylaw14.FrameStack': WHATEVER THE INPUT: true; the input reads as it did. -/
def frameStackSpec : ChangeSpec := { name := "frameStack", fn := fun _ => fun
  | [d1, d2] => { results := [.lit (.bool true)], args := [d1, d2] }
  | _ => none }
def frameStackRow : OpenClaim := { program := "ytnhijjcplnomgaa", sum := "3148fc6a88a94cf1b27c5b3a5a34a297d0852987d0e4eddeb1d92af431ea8e23", func := "colloquy/colloquylaw14.FrameStack", spec := "frameStack", unfollowed := true, recurses := true, apart := false }
def FrameStackSaid : Prop := frameStackRow.holds Try.pinned (OpenSpec.ofChange frameStackSpec)

/-- ITS FALSE NEIGHBOUR: 'it returns false'. Refute it at one input. -/
def frameStackWrong : ChangeSpec := { name := "frameStack", fn := fun _ => fun
  | [d1, d2] => { results := [.lit (.bool false)], args := [d1, d2] }
  | _ => none }
def FrameStackWrongFalsely : Prop := frameStackRow.holds Try.pinned (OpenSpec.ofChange frameStackWrong)

/- THE SECOND FORM. 'bulk': how many values and letters a reading holds, each counted each time it is reached (what is shared counts as often as it is met; a slice's spare places count too). A statement '..UptoSaid' is the law's where the arguments, and the package variables that the reading takes, are together of bulk at most 1048576: NARROWER than '..Said'. Prove '..Said' where nothing that the law and all that it calls make is longer than what came in: it says more and counts as full. Else prove '..UptoSaid'. A law counts once. -/
mutual
def uptoBulk {H : Type} : DataW H → Nat
  | .lit (.string bytes) => bytes.length + 1
  | .lit _ => 1
  | .nil => 1
  | .ptr d => uptoBulk d + 1
  | .slice elems spare => uptoBulkAll elems + uptoBulkAll spare + 1
  | .agg parts => uptoBulkAll parts + 1
  | .iface _ d => uptoBulk d + 1
  | .map entries => uptoBulkEntries entries + 1
  | .held _ => 1
def uptoBulkAll {H : Type} : List (DataW H) → Nat
  | [] => 0
  | d :: r => uptoBulk d + uptoBulkAll r
def uptoBulkEntries {H : Type} : List (Lit × DataW H) → Nat
  | [] => 0
  | x :: r => uptoBulkEntry x + uptoBulkEntries r
def uptoBulkEntry {H : Type} : Lit × DataW H → Nat
  | (.string bytes, d) => bytes.length + uptoBulk d + 1
  | (_, d) => uptoBulk d + 1
 end
def uptoSmall : (H : Type) → List (DataW H) → Bool := fun _ ds => decide (uptoBulkAll ds ≤ 1048576)
def OpenSpec.upto (s : _root_.Go.ChangeSpec) : _root_.Go.OpenSpec := { _root_.Go.OpenSpec.ofChange s with cond := some uptoSmall }

/-- 'colloquylaw14.FrameHomes', WHERE WHAT IT READS IS OF BULK AT MOST 1048576: true; the input reads as it did. -/
def frameHomesUptoRow : OpenClaim := { program := "ytnhijjcplnomgaa", sum := "3148fc6a88a94cf1b27c5b3a5a34a297d0852987d0e4eddeb1d92af431ea8e23", func := "colloquy/colloquylaw14.FrameHomes", spec := "frameHomes", unfollowed := true, recurses := true, apart := false, narrowed := true }
def FrameHomesUptoSaid : Prop := frameHomesUptoRow.holds Try.pinned (OpenSpec.upto frameHomesSpec)

/-- 'colloquylaw14.FrameStack', WHERE WHAT IT READS IS OF BULK AT MOST 1048576: true; the input reads as it did. -/
def frameStackUptoRow : OpenClaim := { program := "ytnhijjcplnomgaa", sum := "3148fc6a88a94cf1b27c5b3a5a34a297d0852987d0e4eddeb1d92af431ea8e23", func := "colloquy/colloquylaw14.FrameStack", spec := "frameStack", unfollowed := true, recurses := true, apart := false, narrowed := true }
def FrameStackUptoSaid : Prop := frameStackUptoRow.holds Try.pinned (OpenSpec.upto frameStackSpec)

end Rows
end Go.Proofs.Ytnhijjcplnomgaa
