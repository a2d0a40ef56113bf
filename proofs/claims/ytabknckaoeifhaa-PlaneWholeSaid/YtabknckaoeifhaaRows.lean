/-
  No cell of these rows narrows 'for every input' (looked for: loops, veiled, ifaces, maps, wideKeys, modest, calm, conditions, laid).
  DERIVED. THE GIVEN ROWS OF THIS SEAT. 12 by the template 'for every input the law returns true; each argument reads behind the call as it read before'; 0 by the template 'total and deterministic' (their statements: YtabknckaoeifhaaTotals.lean).
  GIVEN WITH THE SEED: the statements are not yours to turn. If you find one false, say at which input.
  Laid BY PROGRAM, IN A SANDBOX (cutbox-rows.mjs): the forced cells as the released guide's own fill.sh prints them over the translation 2095b90dcf17c7ba… (all of the seat's roots in one cut). By AI agents, Wed Nov 11 2026. No macro, syntax, notation, axiom, sorry.
-/
import Derived.Test.YtabknckaoeifhaaChecked
import GoSem.Claim
import GoSem.ClaimJoined
import GoSem.ClaimMapViews
import Derived.JoinedTies
import Derived.KernelRfl
namespace Go.Proofs.Ytabknckaoeifhaa
/- THE CELL 'sum', in the pinned program and in every row, IS THE sha256 OF THE DUMP (.gsa) THAT YtabknckaoeifhaaProg.lean LOADS. Nothing in Lean hashes anything: it is a label: what it is worth is what the hold of that sum in a sandbox is worth. -/
noncomputable def Try.pinned : Pinned := { name := "ytabknckaoeifhaa", sum := "2095b90dcf17c7ba031d9f8fa4551131394e42f7671dfda2a1b303e9da3b6d0f", checked := Try.checked }
namespace Rows
def none {H : Type} : Left H := { results := [], args := [] }

/-- 'colloquylaw13.CodeNames': WHATEVER THE INPUT: true; the input reads as it did. -/
def codeNamesSpec : ChangeSpec := { name := "codeNames", fn := fun _ => fun
  | [] => { results := [.lit (.bool true)], args := [] }
  | _ => none }
def codeNamesRow : OpenClaim := { program := "ytabknckaoeifhaa", sum := "2095b90dcf17c7ba031d9f8fa4551131394e42f7671dfda2a1b303e9da3b6d0f", func := "colloquy/colloquylaw13.CodeNames", spec := "codeNames", apart := false }
def CodeNamesSaid : Prop := codeNamesRow.holds Try.pinned (OpenSpec.ofChange codeNamesSpec)

/-- ITS FALSE NEIGHBOUR: 'it returns false'. Refute it at one input. -/
def codeNamesWrong : ChangeSpec := { name := "codeNames", fn := fun _ => fun
  | [] => { results := [.lit (.bool false)], args := [] }
  | _ => none }
def CodeNamesWrongFalsely : Prop := codeNamesRow.holds Try.pinned (OpenSpec.ofChange codeNamesWrong)

/-- 'colloquylaw13.CodePieces': WHATEVER THE INPUT: true; the input reads as it did. -/
def codePiecesSpec : ChangeSpec := { name := "codePieces", fn := fun _ => fun
  | [d1, d2, d3] => { results := [.lit (.bool true)], args := [d1, d2, d3] }
  | _ => none }
def codePiecesRow : OpenClaim := { program := "ytabknckaoeifhaa", sum := "2095b90dcf17c7ba031d9f8fa4551131394e42f7671dfda2a1b303e9da3b6d0f", func := "colloquy/colloquylaw13.CodePieces", spec := "codePieces", apart := false }
def CodePiecesSaid : Prop := codePiecesRow.holds Try.pinned (OpenSpec.ofChange codePiecesSpec)

/-- ITS FALSE NEIGHBOUR: 'it returns false'. Refute it at one input. -/
def codePiecesWrong : ChangeSpec := { name := "codePieces", fn := fun _ => fun
  | [d1, d2, d3] => { results := [.lit (.bool false)], args := [d1, d2, d3] }
  | _ => none }
def CodePiecesWrongFalsely : Prop := codePiecesRow.holds Try.pinned (OpenSpec.ofChange codePiecesWrong)

/-- 'colloquylaw06.PlaneWhole': WHATEVER THE INPUT: true; the input reads as it did. -/
def planeWholeSpec : ChangeSpec := { name := "planeWhole", fn := fun _ => fun
  | [d1, d2, d3] => { results := [.lit (.bool true)], args := [d1, d2, d3] }
  | _ => none }
def planeWholeRow : OpenClaim := { program := "ytabknckaoeifhaa", sum := "2095b90dcf17c7ba031d9f8fa4551131394e42f7671dfda2a1b303e9da3b6d0f", func := "colloquy/colloquylaw06.PlaneWhole", spec := "planeWhole", apart := false }
def PlaneWholeSaid : Prop := planeWholeRow.holds Try.pinned (OpenSpec.ofChange planeWholeSpec)

/-- ITS FALSE NEIGHBOUR: 'it returns false'. Refute it at one input. -/
def planeWholeWrong : ChangeSpec := { name := "planeWhole", fn := fun _ => fun
  | [d1, d2, d3] => { results := [.lit (.bool false)], args := [d1, d2, d3] }
  | _ => none }
def PlaneWholeWrongFalsely : Prop := planeWholeRow.holds Try.pinned (OpenSpec.ofChange planeWholeWrong)

/-- 'colloquylaw13.CodeAll': WHATEVER THE INPUT: true; the input reads as it did. -/
def codeAllSpec : ChangeSpec := { name := "codeAll", fn := fun _ => fun
  | [d1, d2, d3, d4, d5] => { results := [.lit (.bool true)], args := [d1, d2, d3, d4, d5] }
  | _ => none }
def codeAllRow : OpenClaim := { program := "ytabknckaoeifhaa", sum := "2095b90dcf17c7ba031d9f8fa4551131394e42f7671dfda2a1b303e9da3b6d0f", func := "colloquy/colloquylaw13.CodeAll", spec := "codeAll", apart := false }
def CodeAllSaid : Prop := codeAllRow.holds Try.pinned (OpenSpec.ofChange codeAllSpec)

/-- ITS FALSE NEIGHBOUR: 'it returns false'. Refute it at one input. -/
def codeAllWrong : ChangeSpec := { name := "codeAll", fn := fun _ => fun
  | [d1, d2, d3, d4, d5] => { results := [.lit (.bool false)], args := [d1, d2, d3, d4, d5] }
  | _ => none }
def CodeAllWrongFalsely : Prop := codeAllRow.holds Try.pinned (OpenSpec.ofChange codeAllWrong)

/-- 'colloquylaw13.CodeBack': WHATEVER THE INPUT: true; the input reads as it did. -/
def codeBackSpec : ChangeSpec := { name := "codeBack", fn := fun _ => fun
  | [d1, d2] => { results := [.lit (.bool true)], args := [d1, d2] }
  | _ => none }
def codeBackRow : OpenClaim := { program := "ytabknckaoeifhaa", sum := "2095b90dcf17c7ba031d9f8fa4551131394e42f7671dfda2a1b303e9da3b6d0f", func := "colloquy/colloquylaw13.CodeBack", spec := "codeBack", apart := false }
def CodeBackSaid : Prop := codeBackRow.holds Try.pinned (OpenSpec.ofChange codeBackSpec)

/-- ITS FALSE NEIGHBOUR: 'it returns false'. Refute it at one input. -/
def codeBackWrong : ChangeSpec := { name := "codeBack", fn := fun _ => fun
  | [d1, d2] => { results := [.lit (.bool false)], args := [d1, d2] }
  | _ => none }
def CodeBackWrongFalsely : Prop := codeBackRow.holds Try.pinned (OpenSpec.ofChange codeBackWrong)

/-- 'colloquylaw06.PlaneLaws': WHATEVER THE INPUT: true; the input reads as it did. -/
def planeLawsSpec : ChangeSpec := { name := "planeLaws", fn := fun _ => fun
  | [d1, d2, d3, d4, d5, d6] => { results := [.lit (.bool true)], args := [d1, d2, d3, d4, d5, d6] }
  | _ => none }
def planeLawsRow : OpenClaim := { program := "ytabknckaoeifhaa", sum := "2095b90dcf17c7ba031d9f8fa4551131394e42f7671dfda2a1b303e9da3b6d0f", func := "colloquy/colloquylaw06.PlaneLaws", spec := "planeLaws", apart := false }
def PlaneLawsSaid : Prop := planeLawsRow.holds Try.pinned (OpenSpec.ofChange planeLawsSpec)

/-- ITS FALSE NEIGHBOUR: 'it returns false'. Refute it at one input. -/
def planeLawsWrong : ChangeSpec := { name := "planeLaws", fn := fun _ => fun
  | [d1, d2, d3, d4, d5, d6] => { results := [.lit (.bool false)], args := [d1, d2, d3, d4, d5, d6] }
  | _ => none }
def PlaneLawsWrongFalsely : Prop := planeLawsRow.holds Try.pinned (OpenSpec.ofChange planeLawsWrong)

/-- 'colloquylaw06.PlaneEdges': WHATEVER THE INPUT: true; the input reads as it did. -/
def planeEdgesSpec : ChangeSpec := { name := "planeEdges", fn := fun _ => fun
  | [d1, d2] => { results := [.lit (.bool true)], args := [d1, d2] }
  | _ => none }
def planeEdgesRow : OpenClaim := { program := "ytabknckaoeifhaa", sum := "2095b90dcf17c7ba031d9f8fa4551131394e42f7671dfda2a1b303e9da3b6d0f", func := "colloquy/colloquylaw06.PlaneEdges", spec := "planeEdges", apart := false }
def PlaneEdgesSaid : Prop := planeEdgesRow.holds Try.pinned (OpenSpec.ofChange planeEdgesSpec)

/-- ITS FALSE NEIGHBOUR: 'it returns false'. Refute it at one input. -/
def planeEdgesWrong : ChangeSpec := { name := "planeEdges", fn := fun _ => fun
  | [d1, d2] => { results := [.lit (.bool false)], args := [d1, d2] }
  | _ => none }
def PlaneEdgesWrongFalsely : Prop := planeEdgesRow.holds Try.pinned (OpenSpec.ofChange planeEdgesWrong)

/-- 'colloquylaw17.NumberAll': WHATEVER THE INPUT: true; the input reads as it did. -/
def numberAllSpec : ChangeSpec := { name := "numberAll", fn := fun _ => fun
  | [d1, d2, d3] => { results := [.lit (.bool true)], args := [d1, d2, d3] }
  | _ => none }
def numberAllRow : OpenClaim := { program := "ytabknckaoeifhaa", sum := "2095b90dcf17c7ba031d9f8fa4551131394e42f7671dfda2a1b303e9da3b6d0f", func := "colloquy/colloquylaw17.NumberAll", spec := "numberAll", apart := false }
def NumberAllSaid : Prop := numberAllRow.holds Try.pinned (OpenSpec.ofChange numberAllSpec)

/-- ITS FALSE NEIGHBOUR: 'it returns false'. Refute it at one input. -/
def numberAllWrong : ChangeSpec := { name := "numberAll", fn := fun _ => fun
  | [d1, d2, d3] => { results := [.lit (.bool false)], args := [d1, d2, d3] }
  | _ => none }
def NumberAllWrongFalsely : Prop := numberAllRow.holds Try.pinned (OpenSpec.ofChange numberAllWrong)

/-- 'colloquylaw17.NumberLaws': WHATEVER THE INPUT: true; the input reads as it did. -/
def numberLawsSpec : ChangeSpec := { name := "numberLaws", fn := fun _ => fun
  | [d1, d2] => { results := [.lit (.bool true)], args := [d1, d2] }
  | _ => none }
def numberLawsRow : OpenClaim := { program := "ytabknckaoeifhaa", sum := "2095b90dcf17c7ba031d9f8fa4551131394e42f7671dfda2a1b303e9da3b6d0f", func := "colloquy/colloquylaw17.NumberLaws", spec := "numberLaws", unfollowed := true, recurses := true, apart := false }
def NumberLawsSaid : Prop := numberLawsRow.holds Try.pinned (OpenSpec.ofChange numberLawsSpec)

/-- ITS FALSE NEIGHBOUR: 'it returns false'. Refute it at one input. -/
def numberLawsWrong : ChangeSpec := { name := "numberLaws", fn := fun _ => fun
  | [d1, d2] => { results := [.lit (.bool false)], args := [d1, d2] }
  | _ => none }
def NumberLawsWrongFalsely : Prop := numberLawsRow.holds Try.pinned (OpenSpec.ofChange numberLawsWrong)

/-- 'colloquylaw17.NumberEdges': WHATEVER THE INPUT: true; the input reads as it did. -/
def numberEdgesSpec : ChangeSpec := { name := "numberEdges", fn := fun _ => fun
  | [d1, d2] => { results := [.lit (.bool true)], args := [d1, d2] }
  | _ => none }
def numberEdgesRow : OpenClaim := { program := "ytabknckaoeifhaa", sum := "2095b90dcf17c7ba031d9f8fa4551131394e42f7671dfda2a1b303e9da3b6d0f", func := "colloquy/colloquylaw17.NumberEdges", spec := "numberEdges", apart := false }
def NumberEdgesSaid : Prop := numberEdgesRow.holds Try.pinned (OpenSpec.ofChange numberEdgesSpec)

/-- ITS FALSE NEIGHBOUR: 'it returns false'. Refute it at one input. -/
def numberEdgesWrong : ChangeSpec := { name := "numberEdges", fn := fun _ => fun
  | [d1, d2] => { results := [.lit (.bool false)], args := [d1, d2] }
  | _ => none }
def NumberEdgesWrongFalsely : Prop := numberEdgesRow.holds Try.pinned (OpenSpec.ofChange numberEdgesWrong)

/-- 'colloquylaw17.NumberTruths': WHATEVER THE INPUT: true; the input reads as it did. -/
def numberTruthsSpec : ChangeSpec := { name := "numberTruths", fn := fun _ => fun
  | [d1, d2, d3] => { results := [.lit (.bool true)], args := [d1, d2, d3] }
  | _ => none }
def numberTruthsRow : OpenClaim := { program := "ytabknckaoeifhaa", sum := "2095b90dcf17c7ba031d9f8fa4551131394e42f7671dfda2a1b303e9da3b6d0f", func := "colloquy/colloquylaw17.NumberTruths", spec := "numberTruths", unfollowed := true, recurses := true, apart := false }
def NumberTruthsSaid : Prop := numberTruthsRow.holds Try.pinned (OpenSpec.ofChange numberTruthsSpec)

/-- ITS FALSE NEIGHBOUR: 'it returns false'. Refute it at one input. -/
def numberTruthsWrong : ChangeSpec := { name := "numberTruths", fn := fun _ => fun
  | [d1, d2, d3] => { results := [.lit (.bool false)], args := [d1, d2, d3] }
  | _ => none }
def NumberTruthsWrongFalsely : Prop := numberTruthsRow.holds Try.pinned (OpenSpec.ofChange numberTruthsWrong)

/-- 'colloquylaw17.NumberNone': WHATEVER THE INPUT: true; the input reads as it did. -/
def numberNoneSpec : ChangeSpec := { name := "numberNone", fn := fun _ => fun
  | [d1, d2, d3] => { results := [.lit (.bool true)], args := [d1, d2, d3] }
  | _ => none }
def numberNoneRow : OpenClaim := { program := "ytabknckaoeifhaa", sum := "2095b90dcf17c7ba031d9f8fa4551131394e42f7671dfda2a1b303e9da3b6d0f", func := "colloquy/colloquylaw17.NumberNone", spec := "numberNone", apart := false }
def NumberNoneSaid : Prop := numberNoneRow.holds Try.pinned (OpenSpec.ofChange numberNoneSpec)

/-- ITS FALSE NEIGHBOUR: 'it returns false'. Refute it at one input. -/
def numberNoneWrong : ChangeSpec := { name := "numberNone", fn := fun _ => fun
  | [d1, d2, d3] => { results := [.lit (.bool false)], args := [d1, d2, d3] }
  | _ => none }
def NumberNoneWrongFalsely : Prop := numberNoneRow.holds Try.pinned (OpenSpec.ofChange numberNoneWrong)

/- THE SECOND FORM. 'bulk': how many values and letters a reading holds, each counted each time it is reached (what is shared counts as often as it is met; a slice's spare places count too). A statement '..UptoSaid' is the law's where the arguments, and the package variables that the reading takes, are together of bulk at most 1048576: NARROWER than '..Said'. Prove '..Said' where nothing that the law and all that it calls make is longer than what came in: it says more and counts as full. Else prove '..UptoSaid'. A law counts once. -/
mutual
def uptoBulk {H : Type} : DataW H → Nat
  | .lit (.string bytes) => bytes.length + 1
  | .lit _ => 1
  | .nil => 1
  | .ptr d => uptoBulk d + 1
  | .slice elems spare => uptoBulkAll elems + uptoBulkAll spare + 1
  | .agg parts => uptoBulkAll parts + 1
  | .iface _ d => uptoBulk d + 1
  | .map entries => uptoBulkEntries entries + 1
  | .held _ => 1
def uptoBulkAll {H : Type} : List (DataW H) → Nat
  | [] => 0
  | d :: r => uptoBulk d + uptoBulkAll r
def uptoBulkEntries {H : Type} : List (Lit × DataW H) → Nat
  | [] => 0
  | x :: r => uptoBulkEntry x + uptoBulkEntries r
def uptoBulkEntry {H : Type} : Lit × DataW H → Nat
  | (.string bytes, d) => bytes.length + uptoBulk d + 1
  | (_, d) => uptoBulk d + 1
 end
def uptoSmall : (H : Type) → List (DataW H) → Bool := fun _ ds => decide (uptoBulkAll ds ≤ 1048576)
def OpenSpec.upto (s : _root_.Go.ChangeSpec) : _root_.Go.OpenSpec := { _root_.Go.OpenSpec.ofChange s with cond := some uptoSmall }

/-- 'colloquylaw13.CodeNames', WHERE WHAT IT READS IS OF BULK AT MOST 1048576: true; the input reads as it did. -/
def codeNamesUptoRow : OpenClaim := { program := "ytabknckaoeifhaa", sum := "2095b90dcf17c7ba031d9f8fa4551131394e42f7671dfda2a1b303e9da3b6d0f", func := "colloquy/colloquylaw13.CodeNames", spec := "codeNames", apart := false, narrowed := true }
def CodeNamesUptoSaid : Prop := codeNamesUptoRow.holds Try.pinned (OpenSpec.upto codeNamesSpec)

/-- 'colloquylaw13.CodePieces', WHERE WHAT IT READS IS OF BULK AT MOST 1048576: true; the input reads as it did. -/
def codePiecesUptoRow : OpenClaim := { program := "ytabknckaoeifhaa", sum := "2095b90dcf17c7ba031d9f8fa4551131394e42f7671dfda2a1b303e9da3b6d0f", func := "colloquy/colloquylaw13.CodePieces", spec := "codePieces", apart := false, narrowed := true }
def CodePiecesUptoSaid : Prop := codePiecesUptoRow.holds Try.pinned (OpenSpec.upto codePiecesSpec)

/-- 'colloquylaw06.PlaneWhole', WHERE WHAT IT READS IS OF BULK AT MOST 1048576: true; the input reads as it did. -/
def planeWholeUptoRow : OpenClaim := { program := "ytabknckaoeifhaa", sum := "2095b90dcf17c7ba031d9f8fa4551131394e42f7671dfda2a1b303e9da3b6d0f", func := "colloquy/colloquylaw06.PlaneWhole", spec := "planeWhole", apart := false, narrowed := true }
def PlaneWholeUptoSaid : Prop := planeWholeUptoRow.holds Try.pinned (OpenSpec.upto planeWholeSpec)

/-- 'colloquylaw13.CodeAll', WHERE WHAT IT READS IS OF BULK AT MOST 1048576: true; the input reads as it did. -/
def codeAllUptoRow : OpenClaim := { program := "ytabknckaoeifhaa", sum := "2095b90dcf17c7ba031d9f8fa4551131394e42f7671dfda2a1b303e9da3b6d0f", func := "colloquy/colloquylaw13.CodeAll", spec := "codeAll", apart := false, narrowed := true }
def CodeAllUptoSaid : Prop := codeAllUptoRow.holds Try.pinned (OpenSpec.upto codeAllSpec)

/-- 'colloquylaw13.CodeBack', WHERE WHAT IT READS IS OF BULK AT MOST 1048576: true; the input reads as it did. -/
def codeBackUptoRow : OpenClaim := { program := "ytabknckaoeifhaa", sum := "2095b90dcf17c7ba031d9f8fa4551131394e42f7671dfda2a1b303e9da3b6d0f", func := "colloquy/colloquylaw13.CodeBack", spec := "codeBack", apart := false, narrowed := true }
def CodeBackUptoSaid : Prop := codeBackUptoRow.holds Try.pinned (OpenSpec.upto codeBackSpec)

/-- 'colloquylaw06.PlaneLaws', WHERE WHAT IT READS IS OF BULK AT MOST 1048576: true; the input reads as it did. -/
def planeLawsUptoRow : OpenClaim := { program := "ytabknckaoeifhaa", sum := "2095b90dcf17c7ba031d9f8fa4551131394e42f7671dfda2a1b303e9da3b6d0f", func := "colloquy/colloquylaw06.PlaneLaws", spec := "planeLaws", apart := false, narrowed := true }
def PlaneLawsUptoSaid : Prop := planeLawsUptoRow.holds Try.pinned (OpenSpec.upto planeLawsSpec)

/-- 'colloquylaw06.PlaneEdges', WHERE WHAT IT READS IS OF BULK AT MOST 1048576: true; the input reads as it did. -/
def planeEdgesUptoRow : OpenClaim := { program := "ytabknckaoeifhaa", sum := "2095b90dcf17c7ba031d9f8fa4551131394e42f7671dfda2a1b303e9da3b6d0f", func := "colloquy/colloquylaw06.PlaneEdges", spec := "planeEdges", apart := false, narrowed := true }
def PlaneEdgesUptoSaid : Prop := planeEdgesUptoRow.holds Try.pinned (OpenSpec.upto planeEdgesSpec)

/-- 'colloquylaw17.NumberAll', WHERE WHAT IT READS IS OF BULK AT MOST 1048576: true; the input reads as it did. -/
def numberAllUptoRow : OpenClaim := { program := "ytabknckaoeifhaa", sum := "2095b90dcf17c7ba031d9f8fa4551131394e42f7671dfda2a1b303e9da3b6d0f", func := "colloquy/colloquylaw17.NumberAll", spec := "numberAll", apart := false, narrowed := true }
def NumberAllUptoSaid : Prop := numberAllUptoRow.holds Try.pinned (OpenSpec.upto numberAllSpec)

/-- 'colloquylaw17.NumberLaws', WHERE WHAT IT READS IS OF BULK AT MOST 1048576: true; the input reads as it did. -/
def numberLawsUptoRow : OpenClaim := { program := "ytabknckaoeifhaa", sum := "2095b90dcf17c7ba031d9f8fa4551131394e42f7671dfda2a1b303e9da3b6d0f", func := "colloquy/colloquylaw17.NumberLaws", spec := "numberLaws", unfollowed := true, recurses := true, apart := false, narrowed := true }
def NumberLawsUptoSaid : Prop := numberLawsUptoRow.holds Try.pinned (OpenSpec.upto numberLawsSpec)

/-- 'colloquylaw17.NumberEdges', WHERE WHAT IT READS IS OF BULK AT MOST 1048576: true; the input reads as it did. -/
def numberEdgesUptoRow : OpenClaim := { program := "ytabknckaoeifhaa", sum := "2095b90dcf17c7ba031d9f8fa4551131394e42f7671dfda2a1b303e9da3b6d0f", func := "colloquy/colloquylaw17.NumberEdges", spec := "numberEdges", apart := false, narrowed := true }
def NumberEdgesUptoSaid : Prop := numberEdgesUptoRow.holds Try.pinned (OpenSpec.upto numberEdgesSpec)

/-- 'colloquylaw17.NumberTruths', WHERE WHAT IT READS IS OF BULK AT MOST 1048576: true; the input reads as it did. -/
def numberTruthsUptoRow : OpenClaim := { program := "ytabknckaoeifhaa", sum := "2095b90dcf17c7ba031d9f8fa4551131394e42f7671dfda2a1b303e9da3b6d0f", func := "colloquy/colloquylaw17.NumberTruths", spec := "numberTruths", unfollowed := true, recurses := true, apart := false, narrowed := true }
def NumberTruthsUptoSaid : Prop := numberTruthsUptoRow.holds Try.pinned (OpenSpec.upto numberTruthsSpec)

/-- 'colloquylaw17.NumberNone', WHERE WHAT IT READS IS OF BULK AT MOST 1048576: true; the input reads as it did. -/
def numberNoneUptoRow : OpenClaim := { program := "ytabknckaoeifhaa", sum := "2095b90dcf17c7ba031d9f8fa4551131394e42f7671dfda2a1b303e9da3b6d0f", func := "colloquy/colloquylaw17.NumberNone", spec := "numberNone", apart := false, narrowed := true }
def NumberNoneUptoSaid : Prop := numberNoneUptoRow.holds Try.pinned (OpenSpec.upto numberNoneSpec)

end Rows
end Go.Proofs.Ytabknckaoeifhaa
