/-
  No cell of these rows narrows 'for every input' (looked for: loops, veiled, ifaces, maps, wideKeys, modest, calm, conditions, laid).
  DERIVED. THE GIVEN ROWS OF THIS SEAT. 5 by the template 'for every input the law returns true; each argument reads behind the call as it read before'; 0 by the template 'total and deterministic' (their statements: YtadhkmplhgcgkaaTotals.lean).
  GIVEN WITH THE SEED: the statements are not yours to turn. If you find one false, say at which input.
  Laid BY PROGRAM, IN A SANDBOX (cutbox-rows.mjs): the forced cells as the released guide's own fill.sh prints them over the translation 79e31004c35ed410… (all of the seat's roots in one cut). By AI agents, Wed Nov 11 2026. No macro, syntax, notation, axiom, sorry.
-/
import Derived.Test.YtadhkmplhgcgkaaChecked
import GoSem.Claim
import GoSem.ClaimJoined
import GoSem.ClaimMapViews
import Derived.JoinedTies
import Derived.KernelRfl
namespace Go.Proofs.Ytadhkmplhgcgkaa
/- THE CELL 'sum', in the pinned program and in every row, IS THE sha256 OF THE DUMP (.gsa) THAT YtadhkmplhgcgkaaProg.lean LOADS. Nothing in Lean hashes anything: it is a label: what it is worth is what the hold of that sum in a sandbox is worth. -/
noncomputable def Try.pinned : Pinned := { name := "ytadhkmplhgcgkaa", sum := "79e31004c35ed4109ca825b8535c20487d74d4a8746bb5fe1b0d8e64913b9ad4", checked := Try.checked }
namespace Rows
def none {H : Type} : Left H := { results := [], args := [] }

/-- 'colloquylaw08.ReachWeak': WHATEVER THE INPUT: true; the input reads as it did. -/
def reachWeakSpec : ChangeSpec := { name := "reachWeak", fn := fun _ => fun
  | [d] => { results := [.lit (.bool true)], args := [d] }
  | _ => none }
def reachWeakRow : OpenClaim := { program := "ytadhkmplhgcgkaa", sum := "79e31004c35ed4109ca825b8535c20487d74d4a8746bb5fe1b0d8e64913b9ad4", func := "colloquy/colloquylaw08.ReachWeak", spec := "reachWeak", unfollowed := true, recurses := true, apart := false }
def ReachWeakSaid : Prop := reachWeakRow.holds Try.pinned (OpenSpec.ofChange reachWeakSpec)

/-- ITS FALSE NEIGHBOUR: 'it returns false'. Refute it at one input. -/
def reachWeakWrong : ChangeSpec := { name := "reachWeak", fn := fun _ => fun
  | [d] => { results := [.lit (.bool false)], args := [d] }
  | _ => none }
def ReachWeakWrongFalsely : Prop := reachWeakRow.holds Try.pinned (OpenSpec.ofChange reachWeakWrong)

/-- 'colloquylaw07.ImageBack': WHATEVER THE INPUT: true; the input reads as it did. -/
def imageBackSpec : ChangeSpec := { name := "imageBack", fn := fun _ => fun
  | [d1, d2, d3] => { results := [.lit (.bool true)], args := [d1, d2, d3] }
  | _ => none }
def imageBackRow : OpenClaim := { program := "ytadhkmplhgcgkaa", sum := "79e31004c35ed4109ca825b8535c20487d74d4a8746bb5fe1b0d8e64913b9ad4", func := "colloquy/colloquylaw07.ImageBack", spec := "imageBack", unfollowed := true, recurses := true, apart := false }
def ImageBackSaid : Prop := imageBackRow.holds Try.pinned (OpenSpec.ofChange imageBackSpec)

/-- ITS FALSE NEIGHBOUR: 'it returns false'. Refute it at one input. -/
def imageBackWrong : ChangeSpec := { name := "imageBack", fn := fun _ => fun
  | [d1, d2, d3] => { results := [.lit (.bool false)], args := [d1, d2, d3] }
  | _ => none }
def ImageBackWrongFalsely : Prop := imageBackRow.holds Try.pinned (OpenSpec.ofChange imageBackWrong)

/-- 'colloquylaw08.ReachAll': WHATEVER THE INPUT: true; the input reads as it did. -/
def reachAllSpec : ChangeSpec := { name := "reachAll", fn := fun _ => fun
  | [d1, d2] => { results := [.lit (.bool true)], args := [d1, d2] }
  | _ => none }
def reachAllRow : OpenClaim := { program := "ytadhkmplhgcgkaa", sum := "79e31004c35ed4109ca825b8535c20487d74d4a8746bb5fe1b0d8e64913b9ad4", func := "colloquy/colloquylaw08.ReachAll", spec := "reachAll", unfollowed := true, recurses := true, apart := false }
def ReachAllSaid : Prop := reachAllRow.holds Try.pinned (OpenSpec.ofChange reachAllSpec)

/-- ITS FALSE NEIGHBOUR: 'it returns false'. Refute it at one input. -/
def reachAllWrong : ChangeSpec := { name := "reachAll", fn := fun _ => fun
  | [d1, d2] => { results := [.lit (.bool false)], args := [d1, d2] }
  | _ => none }
def ReachAllWrongFalsely : Prop := reachAllRow.holds Try.pinned (OpenSpec.ofChange reachAllWrong)

/-- 'colloquylaw08.ReachCanon': WHATEVER THE INPUT: true; the input reads as it did. -/
def reachCanonSpec : ChangeSpec := { name := "reachCanon", fn := fun _ => fun
  | [d] => { results := [.lit (.bool true)], args := [d] }
  | _ => none }
def reachCanonRow : OpenClaim := { program := "ytadhkmplhgcgkaa", sum := "79e31004c35ed4109ca825b8535c20487d74d4a8746bb5fe1b0d8e64913b9ad4", func := "colloquy/colloquylaw08.ReachCanon", spec := "reachCanon", unfollowed := true, recurses := true, apart := false }
def ReachCanonSaid : Prop := reachCanonRow.holds Try.pinned (OpenSpec.ofChange reachCanonSpec)

/-- ITS FALSE NEIGHBOUR: 'it returns false'. Refute it at one input. -/
def reachCanonWrong : ChangeSpec := { name := "reachCanon", fn := fun _ => fun
  | [d] => { results := [.lit (.bool false)], args := [d] }
  | _ => none }
def ReachCanonWrongFalsely : Prop := reachCanonRow.holds Try.pinned (OpenSpec.ofChange reachCanonWrong)

/-- 'colloquylaw07.ImageAll': WHATEVER THE INPUT: true; the input reads as it did. -/
def imageAllSpec : ChangeSpec := { name := "imageAll", fn := fun _ => fun
  | [d1, d2] => { results := [.lit (.bool true)], args := [d1, d2] }
  | _ => none }
def imageAllRow : OpenClaim := { program := "ytadhkmplhgcgkaa", sum := "79e31004c35ed4109ca825b8535c20487d74d4a8746bb5fe1b0d8e64913b9ad4", func := "colloquy/colloquylaw07.ImageAll", spec := "imageAll", unfollowed := true, recurses := true, apart := false }
def ImageAllSaid : Prop := imageAllRow.holds Try.pinned (OpenSpec.ofChange imageAllSpec)

/-- ITS FALSE NEIGHBOUR: 'it returns false'. Refute it at one input. -/
def imageAllWrong : ChangeSpec := { name := "imageAll", fn := fun _ => fun
  | [d1, d2] => { results := [.lit (.bool false)], args := [d1, d2] }
  | _ => none }
def ImageAllWrongFalsely : Prop := imageAllRow.holds Try.pinned (OpenSpec.ofChange imageAllWrong)

/- THE SECOND FORM. 'bulk': how many values and letters a reading holds, each counted each time it is reached (what is shared counts as often as it is met; a slice's spare places count too). A statement '..UptoSaid' is the law's where the arguments, and the package variables that the reading takes, are together of bulk at most 1048576: NARROWER than '..Said'. Prove '..Said' where nothing that the law and all that it calls make is longer than what came in: it says more and counts as full. Else prove '..UptoSaid'. A law counts once. -/
mutual
def uptoBulk {H : Type} : DataW H → Nat
  | .lit (.string bytes) => bytes.length + 1
  | .lit _ => 1
  | .nil => 1
  | .ptr d => uptoBulk d + 1
  | .slice elems spare => uptoBulkAll elems + uptoBulkAll spare + 1
  | .agg parts => uptoBulkAll parts + 1
  | .iface _ d => uptoBulk d + 1
  | .map entries => uptoBulkEntries entries + 1
  | .held _ => 1
def uptoBulkAll {H : Type} : List (DataW H) → Nat
  | [] => 0
  | d :: r => uptoBulk d + uptoBulkAll r
def uptoBulkEntries {H : Type} : List (Lit × DataW H) → Nat
  | [] => 0
  | x :: r => uptoBulkEntry x + uptoBulkEntries r
def uptoBulkEntry {H : Type} : Lit × DataW H → Nat
  | (.string bytes, d) => bytes.length + uptoBulk d + 1
  | (_, d) => uptoBulk d + 1
 end
def uptoSmall : (H : Type) → List (DataW H) → Bool := fun _ ds => decide (uptoBulkAll ds ≤ 1048576)
def OpenSpec.upto (s : _root_.Go.ChangeSpec) : _root_.Go.OpenSpec := { _root_.Go.OpenSpec.ofChange s with cond := some uptoSmall }

/-- 'colloquylaw08.ReachWeak', WHERE WHAT IT READS IS OF BULK AT MOST 1048576: true; the input reads as it did. -/
def reachWeakUptoRow : OpenClaim := { program := "ytadhkmplhgcgkaa", sum := "79e31004c35ed4109ca825b8535c20487d74d4a8746bb5fe1b0d8e64913b9ad4", func := "colloquy/colloquylaw08.ReachWeak", spec := "reachWeak", unfollowed := true, recurses := true, apart := false, narrowed := true }
def ReachWeakUptoSaid : Prop := reachWeakUptoRow.holds Try.pinned (OpenSpec.upto reachWeakSpec)

/-- 'colloquylaw07.ImageBack', WHERE WHAT IT READS IS OF BULK AT MOST 1048576: true; the input reads as it did. -/
def imageBackUptoRow : OpenClaim := { program := "ytadhkmplhgcgkaa", sum := "79e31004c35ed4109ca825b8535c20487d74d4a8746bb5fe1b0d8e64913b9ad4", func := "colloquy/colloquylaw07.ImageBack", spec := "imageBack", unfollowed := true, recurses := true, apart := false, narrowed := true }
def ImageBackUptoSaid : Prop := imageBackUptoRow.holds Try.pinned (OpenSpec.upto imageBackSpec)

/-- 'colloquylaw08.ReachAll', WHERE WHAT IT READS IS OF BULK AT MOST 1048576: true; the input reads as it did. -/
def reachAllUptoRow : OpenClaim := { program := "ytadhkmplhgcgkaa", sum := "79e31004c35ed4109ca825b8535c20487d74d4a8746bb5fe1b0d8e64913b9ad4", func := "colloquy/colloquylaw08.ReachAll", spec := "reachAll", unfollowed := true, recurses := true, apart := false, narrowed := true }
def ReachAllUptoSaid : Prop := reachAllUptoRow.holds Try.pinned (OpenSpec.upto reachAllSpec)

/-- 'colloquylaw08.ReachCanon', WHERE WHAT IT READS IS OF BULK AT MOST 1048576: true; the input reads as it did. -/
def reachCanonUptoRow : OpenClaim := { program := "ytadhkmplhgcgkaa", sum := "79e31004c35ed4109ca825b8535c20487d74d4a8746bb5fe1b0d8e64913b9ad4", func := "colloquy/colloquylaw08.ReachCanon", spec := "reachCanon", unfollowed := true, recurses := true, apart := false, narrowed := true }
def ReachCanonUptoSaid : Prop := reachCanonUptoRow.holds Try.pinned (OpenSpec.upto reachCanonSpec)

/-- 'colloquylaw07.ImageAll', WHERE WHAT IT READS IS OF BULK AT MOST 1048576: true; the input reads as it did. -/
def imageAllUptoRow : OpenClaim := { program := "ytadhkmplhgcgkaa", sum := "79e31004c35ed4109ca825b8535c20487d74d4a8746bb5fe1b0d8e64913b9ad4", func := "colloquy/colloquylaw07.ImageAll", spec := "imageAll", unfollowed := true, recurses := true, apart := false, narrowed := true }
def ImageAllUptoSaid : Prop := imageAllUptoRow.holds Try.pinned (OpenSpec.upto imageAllSpec)

end Rows
end Go.Proofs.Ytadhkmplhgcgkaa
