/-
  No cell of these rows narrows 'for every input' (looked for: loops, veiled, ifaces, maps, wideKeys, modest, calm, conditions, laid).
  DERIVED. THE GIVEN ROWS OF THIS SEAT. 9 by the template 'for every input the law returns true; each argument reads behind the call as it read before'; 0 by the template 'total and deterministic' (their statements: YtnhijjcplnomgaaGreatTotals.lean).
  GIVEN WITH THE SEED: the statements are not yours to turn. If you find one false, say at which input.
  Laid BY PROGRAM, IN A SANDBOX (cutbox-rows.mjs): the forced cells as the released guide's own fill.sh prints them over the translation 63293f91115db3ee… (all of the seat's roots in one cut). By AI agents, Wed Nov 11 2026. No macro, syntax, notation, axiom, sorry.
-/
import Derived.Test.YtnhijjcplnomgaaGreatChecked
import GoSem.Claim
import GoSem.ClaimJoined
import GoSem.ClaimMapViews
import Derived.JoinedTies
import Derived.KernelRfl
namespace Go.Proofs.YtnhijjcplnomgaaGreat
/- THE CELL 'sum', in the pinned program and in every row, IS THE sha256 OF THE DUMP (.gsa) THAT YtnhijjcplnomgaaGreatProg.lean LOADS. Nothing in Lean hashes anything: it is a label: what it is worth is what the hold of that sum in a sandbox is worth. -/
noncomputable def Tryz.pinned : Pinned := { name := "ytnhijjcplnomgaagreat", sum := "63293f91115db3ee747e45c5e3ca9dd35a9b5a21aa4c2ea0694be9ed0d98c98f", checked := Tryz.checked }
namespace Rows
def none {H : Type} : Left H := { results := [], args := [] }

/-- 'colloquylaw14.FrameNext': WHATEVER THE INPUT: true; the input reads as it did. -/
def frameNextSpec : ChangeSpec := { name := "frameNext", fn := fun _ => fun
  | [d1, d2] => { results := [.lit (.bool true)], args := [d1, d2] }
  | _ => none }
def frameNextRow : OpenClaim := { program := "ytnhijjcplnomgaagreat", sum := "63293f91115db3ee747e45c5e3ca9dd35a9b5a21aa4c2ea0694be9ed0d98c98f", func := "colloquy/colloquylaw14.FrameNext", spec := "frameNext", unfollowed := true, recurses := true, apart := false }
def FrameNextSaid : Prop := frameNextRow.holds Tryz.pinned (OpenSpec.ofChange frameNextSpec)

/-- ITS FALSE NEIGHBOUR: 'it returns false'. Refute it at one input. -/
def frameNextWrong : ChangeSpec := { name := "frameNext", fn := fun _ => fun
  | [d1, d2] => { results := [.lit (.bool false)], args := [d1, d2] }
  | _ => none }
def FrameNextWrongFalsely : Prop := frameNextRow.holds Tryz.pinned (OpenSpec.ofChange frameNextWrong)

/-- 'colloquylaw15.SimpleFields': WHATEVER THE INPUT: true; the input reads as it did. -/
def simpleFieldsSpec : ChangeSpec := { name := "simpleFields", fn := fun _ => fun
  | [d1, d2, d3, d4] => { results := [.lit (.bool true)], args := [d1, d2, d3, d4] }
  | _ => none }
def simpleFieldsRow : OpenClaim := { program := "ytnhijjcplnomgaagreat", sum := "63293f91115db3ee747e45c5e3ca9dd35a9b5a21aa4c2ea0694be9ed0d98c98f", func := "colloquy/colloquylaw15.SimpleFields", spec := "simpleFields", unfollowed := true, recurses := true, apart := false }
def SimpleFieldsSaid : Prop := simpleFieldsRow.holds Tryz.pinned (OpenSpec.ofChange simpleFieldsSpec)

/-- ITS FALSE NEIGHBOUR: 'it returns false'. Refute it at one input. -/
def simpleFieldsWrong : ChangeSpec := { name := "simpleFields", fn := fun _ => fun
  | [d1, d2, d3, d4] => { results := [.lit (.bool false)], args := [d1, d2, d3, d4] }
  | _ => none }
def SimpleFieldsWrongFalsely : Prop := simpleFieldsRow.holds Tryz.pinned (OpenSpec.ofChange simpleFieldsWrong)

/-- 'colloquylaw15.SimplePushes': WHATEVER THE INPUT: true; the input reads as it did. -/
def simplePushesSpec : ChangeSpec := { name := "simplePushes", fn := fun _ => fun
  | [d1, d2] => { results := [.lit (.bool true)], args := [d1, d2] }
  | _ => none }
def simplePushesRow : OpenClaim := { program := "ytnhijjcplnomgaagreat", sum := "63293f91115db3ee747e45c5e3ca9dd35a9b5a21aa4c2ea0694be9ed0d98c98f", func := "colloquy/colloquylaw15.SimplePushes", spec := "simplePushes", unfollowed := true, recurses := true, apart := false }
def SimplePushesSaid : Prop := simplePushesRow.holds Tryz.pinned (OpenSpec.ofChange simplePushesSpec)

/-- ITS FALSE NEIGHBOUR: 'it returns false'. Refute it at one input. -/
def simplePushesWrong : ChangeSpec := { name := "simplePushes", fn := fun _ => fun
  | [d1, d2] => { results := [.lit (.bool false)], args := [d1, d2] }
  | _ => none }
def SimplePushesWrongFalsely : Prop := simplePushesRow.holds Tryz.pinned (OpenSpec.ofChange simplePushesWrong)

/-- 'colloquylaw15.SimpleBlocks': WHATEVER THE INPUT: true; the input reads as it did. -/
def simpleBlocksSpec : ChangeSpec := { name := "simpleBlocks", fn := fun _ => fun
  | [d1, d2, d3] => { results := [.lit (.bool true)], args := [d1, d2, d3] }
  | _ => none }
def simpleBlocksRow : OpenClaim := { program := "ytnhijjcplnomgaagreat", sum := "63293f91115db3ee747e45c5e3ca9dd35a9b5a21aa4c2ea0694be9ed0d98c98f", func := "colloquy/colloquylaw15.SimpleBlocks", spec := "simpleBlocks", unfollowed := true, recurses := true, apart := false }
def SimpleBlocksSaid : Prop := simpleBlocksRow.holds Tryz.pinned (OpenSpec.ofChange simpleBlocksSpec)

/-- ITS FALSE NEIGHBOUR: 'it returns false'. Refute it at one input. -/
def simpleBlocksWrong : ChangeSpec := { name := "simpleBlocks", fn := fun _ => fun
  | [d1, d2, d3] => { results := [.lit (.bool false)], args := [d1, d2, d3] }
  | _ => none }
def SimpleBlocksWrongFalsely : Prop := simpleBlocksRow.holds Tryz.pinned (OpenSpec.ofChange simpleBlocksWrong)

/-- 'colloquylaw18.ThingFields': WHATEVER THE INPUT: true; the input reads as it did. -/
def thingFieldsSpec : ChangeSpec := { name := "thingFields", fn := fun _ => fun
  | [d1, d2, d3, d4] => { results := [.lit (.bool true)], args := [d1, d2, d3, d4] }
  | _ => none }
def thingFieldsRow : OpenClaim := { program := "ytnhijjcplnomgaagreat", sum := "63293f91115db3ee747e45c5e3ca9dd35a9b5a21aa4c2ea0694be9ed0d98c98f", func := "colloquy/colloquylaw18.ThingFields", spec := "thingFields", unfollowed := true, recurses := true, apart := false }
def ThingFieldsSaid : Prop := thingFieldsRow.holds Tryz.pinned (OpenSpec.ofChange thingFieldsSpec)

/-- ITS FALSE NEIGHBOUR: 'it returns false'. Refute it at one input. -/
def thingFieldsWrong : ChangeSpec := { name := "thingFields", fn := fun _ => fun
  | [d1, d2, d3, d4] => { results := [.lit (.bool false)], args := [d1, d2, d3, d4] }
  | _ => none }
def ThingFieldsWrongFalsely : Prop := thingFieldsRow.holds Tryz.pinned (OpenSpec.ofChange thingFieldsWrong)

/-- 'colloquylaw18.ThingPoints': WHATEVER THE INPUT: true; the input reads as it did. -/
def thingPointsSpec : ChangeSpec := { name := "thingPoints", fn := fun _ => fun
  | [d1, d2, d3, d4] => { results := [.lit (.bool true)], args := [d1, d2, d3, d4] }
  | _ => none }
def thingPointsRow : OpenClaim := { program := "ytnhijjcplnomgaagreat", sum := "63293f91115db3ee747e45c5e3ca9dd35a9b5a21aa4c2ea0694be9ed0d98c98f", func := "colloquy/colloquylaw18.ThingPoints", spec := "thingPoints", unfollowed := true, recurses := true, apart := false }
def ThingPointsSaid : Prop := thingPointsRow.holds Tryz.pinned (OpenSpec.ofChange thingPointsSpec)

/-- ITS FALSE NEIGHBOUR: 'it returns false'. Refute it at one input. -/
def thingPointsWrong : ChangeSpec := { name := "thingPoints", fn := fun _ => fun
  | [d1, d2, d3, d4] => { results := [.lit (.bool false)], args := [d1, d2, d3, d4] }
  | _ => none }
def ThingPointsWrongFalsely : Prop := thingPointsRow.holds Tryz.pinned (OpenSpec.ofChange thingPointsWrong)

/-- 'colloquylaw18.ThingNews': WHATEVER THE INPUT: true; the input reads as it did. -/
def thingNewsSpec : ChangeSpec := { name := "thingNews", fn := fun _ => fun
  | [d1, d2, d3] => { results := [.lit (.bool true)], args := [d1, d2, d3] }
  | _ => none }
def thingNewsRow : OpenClaim := { program := "ytnhijjcplnomgaagreat", sum := "63293f91115db3ee747e45c5e3ca9dd35a9b5a21aa4c2ea0694be9ed0d98c98f", func := "colloquy/colloquylaw18.ThingNews", spec := "thingNews", unfollowed := true, recurses := true, apart := false }
def ThingNewsSaid : Prop := thingNewsRow.holds Tryz.pinned (OpenSpec.ofChange thingNewsSpec)

/-- ITS FALSE NEIGHBOUR: 'it returns false'. Refute it at one input. -/
def thingNewsWrong : ChangeSpec := { name := "thingNews", fn := fun _ => fun
  | [d1, d2, d3] => { results := [.lit (.bool false)], args := [d1, d2, d3] }
  | _ => none }
def ThingNewsWrongFalsely : Prop := thingNewsRow.holds Tryz.pinned (OpenSpec.ofChange thingNewsWrong)

/-- 'colloquylaw18.ThingCopies': WHATEVER THE INPUT: true; the input reads as it did. -/
def thingCopiesSpec : ChangeSpec := { name := "thingCopies", fn := fun _ => fun
  | [d1, d2] => { results := [.lit (.bool true)], args := [d1, d2] }
  | _ => none }
def thingCopiesRow : OpenClaim := { program := "ytnhijjcplnomgaagreat", sum := "63293f91115db3ee747e45c5e3ca9dd35a9b5a21aa4c2ea0694be9ed0d98c98f", func := "colloquy/colloquylaw18.ThingCopies", spec := "thingCopies", unfollowed := true, recurses := true, apart := false }
def ThingCopiesSaid : Prop := thingCopiesRow.holds Tryz.pinned (OpenSpec.ofChange thingCopiesSpec)

/-- ITS FALSE NEIGHBOUR: 'it returns false'. Refute it at one input. -/
def thingCopiesWrong : ChangeSpec := { name := "thingCopies", fn := fun _ => fun
  | [d1, d2] => { results := [.lit (.bool false)], args := [d1, d2] }
  | _ => none }
def ThingCopiesWrongFalsely : Prop := thingCopiesRow.holds Tryz.pinned (OpenSpec.ofChange thingCopiesWrong)

/-- 'colloquylaw11.CycleTold': WHATEVER THE INPUT: true; the input reads as it did. -/
def cycleToldSpec : ChangeSpec := { name := "cycleTold", fn := fun _ => fun
  | [d1, d2] => { results := [.lit (.bool true)], args := [d1, d2] }
  | _ => none }
def cycleToldRow : OpenClaim := { program := "ytnhijjcplnomgaagreat", sum := "63293f91115db3ee747e45c5e3ca9dd35a9b5a21aa4c2ea0694be9ed0d98c98f", func := "colloquy/colloquylaw11.CycleTold", spec := "cycleTold", unfollowed := true, recurses := true, apart := false }
def CycleToldSaid : Prop := cycleToldRow.holds Tryz.pinned (OpenSpec.ofChange cycleToldSpec)

/-- ITS FALSE NEIGHBOUR: 'it returns false'. Refute it at one input. -/
def cycleToldWrong : ChangeSpec := { name := "cycleTold", fn := fun _ => fun
  | [d1, d2] => { results := [.lit (.bool false)], args := [d1, d2] }
  | _ => none }
def CycleToldWrongFalsely : Prop := cycleToldRow.holds Tryz.pinned (OpenSpec.ofChange cycleToldWrong)

/- THE SECOND FORM. 'bulk': how many values and letters a reading holds, each counted each time it is reached (what is shared counts as often as it is met; a slice's spare places count too). A statement '..UptoSaid' is the law's where the arguments, and the package variables that the reading takes, are together of bulk at most 1048576: NARROWER than '..Said'. Prove '..Said' where nothing that the law and all that it calls make is longer than what came in: it says more and counts as full. Else prove '..UptoSaid'. A law counts once. -/
mutual
def uptoBulk {H : Type} : DataW H → Nat
  | .lit (.string bytes) => bytes.length + 1
  | .lit _ => 1
  | .nil => 1
  | .ptr d => uptoBulk d + 1
  | .slice elems spare => uptoBulkAll elems + uptoBulkAll spare + 1
  | .agg parts => uptoBulkAll parts + 1
  | .iface _ d => uptoBulk d + 1
  | .map entries => uptoBulkEntries entries + 1
  | .held _ => 1
def uptoBulkAll {H : Type} : List (DataW H) → Nat
  | [] => 0
  | d :: r => uptoBulk d + uptoBulkAll r
def uptoBulkEntries {H : Type} : List (Lit × DataW H) → Nat
  | [] => 0
  | x :: r => uptoBulkEntry x + uptoBulkEntries r
def uptoBulkEntry {H : Type} : Lit × DataW H → Nat
  | (.string bytes, d) => bytes.length + uptoBulk d + 1
  | (_, d) => uptoBulk d + 1
 end
def uptoSmall : (H : Type) → List (DataW H) → Bool := fun _ ds => decide (uptoBulkAll ds ≤ 1048576)
def OpenSpec.upto (s : _root_.Go.ChangeSpec) : _root_.Go.OpenSpec := { _root_.Go.OpenSpec.ofChange s with cond := some uptoSmall }

/-- 'colloquylaw14.FrameNext', WHERE WHAT IT READS IS OF BULK AT MOST 1048576: true; the input reads as it did. -/
def frameNextUptoRow : OpenClaim := { program := "ytnhijjcplnomgaagreat", sum := "63293f91115db3ee747e45c5e3ca9dd35a9b5a21aa4c2ea0694be9ed0d98c98f", func := "colloquy/colloquylaw14.FrameNext", spec := "frameNext", unfollowed := true, recurses := true, apart := false, narrowed := true }
def FrameNextUptoSaid : Prop := frameNextUptoRow.holds Tryz.pinned (OpenSpec.upto frameNextSpec)

/-- 'colloquylaw15.SimpleFields', WHERE WHAT IT READS IS OF BULK AT MOST 1048576: true; the input reads as it did. -/
def simpleFieldsUptoRow : OpenClaim := { program := "ytnhijjcplnomgaagreat", sum := "63293f91115db3ee747e45c5e3ca9dd35a9b5a21aa4c2ea0694be9ed0d98c98f", func := "colloquy/colloquylaw15.SimpleFields", spec := "simpleFields", unfollowed := true, recurses := true, apart := false, narrowed := true }
def SimpleFieldsUptoSaid : Prop := simpleFieldsUptoRow.holds Tryz.pinned (OpenSpec.upto simpleFieldsSpec)

/-- 'colloquylaw15.SimplePushes', WHERE WHAT IT READS IS OF BULK AT MOST 1048576: true; the input reads as it did. -/
def simplePushesUptoRow : OpenClaim := { program := "ytnhijjcplnomgaagreat", sum := "63293f91115db3ee747e45c5e3ca9dd35a9b5a21aa4c2ea0694be9ed0d98c98f", func := "colloquy/colloquylaw15.SimplePushes", spec := "simplePushes", unfollowed := true, recurses := true, apart := false, narrowed := true }
def SimplePushesUptoSaid : Prop := simplePushesUptoRow.holds Tryz.pinned (OpenSpec.upto simplePushesSpec)

/-- 'colloquylaw15.SimpleBlocks', WHERE WHAT IT READS IS OF BULK AT MOST 1048576: true; the input reads as it did. -/
def simpleBlocksUptoRow : OpenClaim := { program := "ytnhijjcplnomgaagreat", sum := "63293f91115db3ee747e45c5e3ca9dd35a9b5a21aa4c2ea0694be9ed0d98c98f", func := "colloquy/colloquylaw15.SimpleBlocks", spec := "simpleBlocks", unfollowed := true, recurses := true, apart := false, narrowed := true }
def SimpleBlocksUptoSaid : Prop := simpleBlocksUptoRow.holds Tryz.pinned (OpenSpec.upto simpleBlocksSpec)

/-- 'colloquylaw18.ThingFields', WHERE WHAT IT READS IS OF BULK AT MOST 1048576: true; the input reads as it did. -/
def thingFieldsUptoRow : OpenClaim := { program := "ytnhijjcplnomgaagreat", sum := "63293f91115db3ee747e45c5e3ca9dd35a9b5a21aa4c2ea0694be9ed0d98c98f", func := "colloquy/colloquylaw18.ThingFields", spec := "thingFields", unfollowed := true, recurses := true, apart := false, narrowed := true }
def ThingFieldsUptoSaid : Prop := thingFieldsUptoRow.holds Tryz.pinned (OpenSpec.upto thingFieldsSpec)

/-- 'colloquylaw18.ThingPoints', WHERE WHAT IT READS IS OF BULK AT MOST 1048576: true; the input reads as it did. -/
def thingPointsUptoRow : OpenClaim := { program := "ytnhijjcplnomgaagreat", sum := "63293f91115db3ee747e45c5e3ca9dd35a9b5a21aa4c2ea0694be9ed0d98c98f", func := "colloquy/colloquylaw18.ThingPoints", spec := "thingPoints", unfollowed := true, recurses := true, apart := false, narrowed := true }
def ThingPointsUptoSaid : Prop := thingPointsUptoRow.holds Tryz.pinned (OpenSpec.upto thingPointsSpec)

/-- 'colloquylaw18.ThingNews', WHERE WHAT IT READS IS OF BULK AT MOST 1048576: true; the input reads as it did. -/
def thingNewsUptoRow : OpenClaim := { program := "ytnhijjcplnomgaagreat", sum := "63293f91115db3ee747e45c5e3ca9dd35a9b5a21aa4c2ea0694be9ed0d98c98f", func := "colloquy/colloquylaw18.ThingNews", spec := "thingNews", unfollowed := true, recurses := true, apart := false, narrowed := true }
def ThingNewsUptoSaid : Prop := thingNewsUptoRow.holds Tryz.pinned (OpenSpec.upto thingNewsSpec)

/-- 'colloquylaw18.ThingCopies', WHERE WHAT IT READS IS OF BULK AT MOST 1048576: true; the input reads as it did. -/
def thingCopiesUptoRow : OpenClaim := { program := "ytnhijjcplnomgaagreat", sum := "63293f91115db3ee747e45c5e3ca9dd35a9b5a21aa4c2ea0694be9ed0d98c98f", func := "colloquy/colloquylaw18.ThingCopies", spec := "thingCopies", unfollowed := true, recurses := true, apart := false, narrowed := true }
def ThingCopiesUptoSaid : Prop := thingCopiesUptoRow.holds Tryz.pinned (OpenSpec.upto thingCopiesSpec)

/-- 'colloquylaw11.CycleTold', WHERE WHAT IT READS IS OF BULK AT MOST 1048576: true; the input reads as it did. -/
def cycleToldUptoRow : OpenClaim := { program := "ytnhijjcplnomgaagreat", sum := "63293f91115db3ee747e45c5e3ca9dd35a9b5a21aa4c2ea0694be9ed0d98c98f", func := "colloquy/colloquylaw11.CycleTold", spec := "cycleTold", unfollowed := true, recurses := true, apart := false, narrowed := true }
def CycleToldUptoSaid : Prop := cycleToldUptoRow.holds Tryz.pinned (OpenSpec.upto cycleToldSpec)

end Rows
end Go.Proofs.YtnhijjcplnomgaaGreat
