/-
  No cell of these rows narrows 'for every input' (looked for: loops, veiled, ifaces, maps, wideKeys, modest, calm, conditions, laid).
  DERIVED. THE GIVEN ROWS OF THIS SEAT. 13 by the template 'for every input the law returns true; each argument reads behind the call as it read before'; 0 by the template 'total and deterministic' (their statements: YtgfgmhfggbfeeaaTotals.lean).
  GIVEN WITH THE SEED: the statements are not yours to turn. If you find one false, say at which input.
  Laid BY PROGRAM, IN A SANDBOX (cutbox-rows.mjs): the forced cells as the released guide's own fill.sh prints them over the translation 65160ffba2f59656… (all of the seat's roots in one cut). By AI agents, Wed Nov 11 2026. No macro, syntax, notation, axiom, sorry.
-/
import Derived.Test.YtgfgmhfggbfeeaaChecked
import GoSem.Claim
import GoSem.ClaimJoined
import GoSem.ClaimMapViews
import Derived.JoinedTies
import Derived.KernelRfl
namespace Go.Proofs.Ytgfgmhfggbfeeaa
/- THE CELL 'sum', in the pinned program and in every row, IS THE sha256 OF THE DUMP (.gsa) THAT YtgfgmhfggbfeeaaProg.lean LOADS. Nothing in Lean hashes anything: it is a label: what it is worth is what the hold of that sum in a sandbox is worth. -/
noncomputable def Try.pinned : Pinned := { name := "ytgfgmhfggbfeeaa", sum := "65160ffba2f59656cfbfeb9f9faabdeabea03173fc05fcec57dd235eeb9954c6", checked := Try.checked }
namespace Rows
def none {H : Type} : Left H := { results := [], args := [] }

/-- 'colloquylaw01.WordSums': WHATEVER THE INPUT: true; the input reads as it did. -/
def wordSumsSpec : ChangeSpec := { name := "wordSums", fn := fun _ => fun
  | [d1, d2] => { results := [.lit (.bool true)], args := [d1, d2] }
  | _ => none }
def wordSumsRow : OpenClaim := { program := "ytgfgmhfggbfeeaa", sum := "65160ffba2f59656cfbfeb9f9faabdeabea03173fc05fcec57dd235eeb9954c6", func := "colloquy/colloquylaw01.WordSums", spec := "wordSums", apart := false }
def WordSumsSaid : Prop := wordSumsRow.holds Try.pinned (OpenSpec.ofChange wordSumsSpec)

/-- ITS FALSE NEIGHBOUR: 'it returns false'. Refute it at one input. -/
def wordSumsWrong : ChangeSpec := { name := "wordSums", fn := fun _ => fun
  | [d1, d2] => { results := [.lit (.bool false)], args := [d1, d2] }
  | _ => none }
def WordSumsWrongFalsely : Prop := wordSumsRow.holds Try.pinned (OpenSpec.ofChange wordSumsWrong)

/-- 'colloquylaw02.HeaderAll': WHATEVER THE INPUT: true; the input reads as it did. -/
def headerAllSpec : ChangeSpec := { name := "headerAll", fn := fun _ => fun
  | [d1, d2, d3, d4, d5, d6, d7] => { results := [.lit (.bool true)], args := [d1, d2, d3, d4, d5, d6, d7] }
  | _ => none }
def headerAllRow : OpenClaim := { program := "ytgfgmhfggbfeeaa", sum := "65160ffba2f59656cfbfeb9f9faabdeabea03173fc05fcec57dd235eeb9954c6", func := "colloquy/colloquylaw02.HeaderAll", spec := "headerAll", apart := false }
def HeaderAllSaid : Prop := headerAllRow.holds Try.pinned (OpenSpec.ofChange headerAllSpec)

/-- ITS FALSE NEIGHBOUR: 'it returns false'. Refute it at one input. -/
def headerAllWrong : ChangeSpec := { name := "headerAll", fn := fun _ => fun
  | [d1, d2, d3, d4, d5, d6, d7] => { results := [.lit (.bool false)], args := [d1, d2, d3, d4, d5, d6, d7] }
  | _ => none }
def HeaderAllWrongFalsely : Prop := headerAllRow.holds Try.pinned (OpenSpec.ofChange headerAllWrong)

/-- 'colloquylaw02.HeaderBack': WHATEVER THE INPUT: true; the input reads as it did. -/
def headerBackSpec : ChangeSpec := { name := "headerBack", fn := fun _ => fun
  | [d1, d2, d3, d4, d5, d6, d7] => { results := [.lit (.bool true)], args := [d1, d2, d3, d4, d5, d6, d7] }
  | _ => none }
def headerBackRow : OpenClaim := { program := "ytgfgmhfggbfeeaa", sum := "65160ffba2f59656cfbfeb9f9faabdeabea03173fc05fcec57dd235eeb9954c6", func := "colloquy/colloquylaw02.HeaderBack", spec := "headerBack", apart := false }
def HeaderBackSaid : Prop := headerBackRow.holds Try.pinned (OpenSpec.ofChange headerBackSpec)

/-- ITS FALSE NEIGHBOUR: 'it returns false'. Refute it at one input. -/
def headerBackWrong : ChangeSpec := { name := "headerBack", fn := fun _ => fun
  | [d1, d2, d3, d4, d5, d6, d7] => { results := [.lit (.bool false)], args := [d1, d2, d3, d4, d5, d6, d7] }
  | _ => none }
def HeaderBackWrongFalsely : Prop := headerBackRow.holds Try.pinned (OpenSpec.ofChange headerBackWrong)

/-- 'colloquylaw02.HeaderApart': WHATEVER THE INPUT: true; the input reads as it did. -/
def headerApartSpec : ChangeSpec := { name := "headerApart", fn := fun _ => fun
  | [d1, d2, d3] => { results := [.lit (.bool true)], args := [d1, d2, d3] }
  | _ => none }
def headerApartRow : OpenClaim := { program := "ytgfgmhfggbfeeaa", sum := "65160ffba2f59656cfbfeb9f9faabdeabea03173fc05fcec57dd235eeb9954c6", func := "colloquy/colloquylaw02.HeaderApart", spec := "headerApart", apart := false }
def HeaderApartSaid : Prop := headerApartRow.holds Try.pinned (OpenSpec.ofChange headerApartSpec)

/-- ITS FALSE NEIGHBOUR: 'it returns false'. Refute it at one input. -/
def headerApartWrong : ChangeSpec := { name := "headerApart", fn := fun _ => fun
  | [d1, d2, d3] => { results := [.lit (.bool false)], args := [d1, d2, d3] }
  | _ => none }
def HeaderApartWrongFalsely : Prop := headerApartRow.holds Try.pinned (OpenSpec.ofChange headerApartWrong)

/-- 'colloquylaw02.HeaderCounts': WHATEVER THE INPUT: true; the input reads as it did. -/
def headerCountsSpec : ChangeSpec := { name := "headerCounts", fn := fun _ => fun
  | [d1, d2] => { results := [.lit (.bool true)], args := [d1, d2] }
  | _ => none }
def headerCountsRow : OpenClaim := { program := "ytgfgmhfggbfeeaa", sum := "65160ffba2f59656cfbfeb9f9faabdeabea03173fc05fcec57dd235eeb9954c6", func := "colloquy/colloquylaw02.HeaderCounts", spec := "headerCounts", apart := false }
def HeaderCountsSaid : Prop := headerCountsRow.holds Try.pinned (OpenSpec.ofChange headerCountsSpec)

/-- ITS FALSE NEIGHBOUR: 'it returns false'. Refute it at one input. -/
def headerCountsWrong : ChangeSpec := { name := "headerCounts", fn := fun _ => fun
  | [d1, d2] => { results := [.lit (.bool false)], args := [d1, d2] }
  | _ => none }
def HeaderCountsWrongFalsely : Prop := headerCountsRow.holds Try.pinned (OpenSpec.ofChange headerCountsWrong)

/-- 'colloquylaw01.WordBack': WHATEVER THE INPUT: true; the input reads as it did. -/
def wordBackSpec : ChangeSpec := { name := "wordBack", fn := fun _ => fun
  | [d1, d2, d3] => { results := [.lit (.bool true)], args := [d1, d2, d3] }
  | _ => none }
def wordBackRow : OpenClaim := { program := "ytgfgmhfggbfeeaa", sum := "65160ffba2f59656cfbfeb9f9faabdeabea03173fc05fcec57dd235eeb9954c6", func := "colloquy/colloquylaw01.WordBack", spec := "wordBack", apart := false }
def WordBackSaid : Prop := wordBackRow.holds Try.pinned (OpenSpec.ofChange wordBackSpec)

/-- ITS FALSE NEIGHBOUR: 'it returns false'. Refute it at one input. -/
def wordBackWrong : ChangeSpec := { name := "wordBack", fn := fun _ => fun
  | [d1, d2, d3] => { results := [.lit (.bool false)], args := [d1, d2, d3] }
  | _ => none }
def WordBackWrongFalsely : Prop := wordBackRow.holds Try.pinned (OpenSpec.ofChange wordBackWrong)

/-- 'colloquylaw01.WordCuts': WHATEVER THE INPUT: true; the input reads as it did. -/
def wordCutsSpec : ChangeSpec := { name := "wordCuts", fn := fun _ => fun
  | [d1, d2] => { results := [.lit (.bool true)], args := [d1, d2] }
  | _ => none }
def wordCutsRow : OpenClaim := { program := "ytgfgmhfggbfeeaa", sum := "65160ffba2f59656cfbfeb9f9faabdeabea03173fc05fcec57dd235eeb9954c6", func := "colloquy/colloquylaw01.WordCuts", spec := "wordCuts", apart := false }
def WordCutsSaid : Prop := wordCutsRow.holds Try.pinned (OpenSpec.ofChange wordCutsSpec)

/-- ITS FALSE NEIGHBOUR: 'it returns false'. Refute it at one input. -/
def wordCutsWrong : ChangeSpec := { name := "wordCuts", fn := fun _ => fun
  | [d1, d2] => { results := [.lit (.bool false)], args := [d1, d2] }
  | _ => none }
def WordCutsWrongFalsely : Prop := wordCutsRow.holds Try.pinned (OpenSpec.ofChange wordCutsWrong)

/-- 'colloquylaw09.GreyPlays': WHATEVER THE INPUT: true; the input reads as it did. -/
def greyPlaysSpec : ChangeSpec := { name := "greyPlays", fn := fun _ => fun
  | [d1, d2] => { results := [.lit (.bool true)], args := [d1, d2] }
  | _ => none }
def greyPlaysRow : OpenClaim := { program := "ytgfgmhfggbfeeaa", sum := "65160ffba2f59656cfbfeb9f9faabdeabea03173fc05fcec57dd235eeb9954c6", func := "colloquy/colloquylaw09.GreyPlays", spec := "greyPlays", apart := false }
def GreyPlaysSaid : Prop := greyPlaysRow.holds Try.pinned (OpenSpec.ofChange greyPlaysSpec)

/-- ITS FALSE NEIGHBOUR: 'it returns false'. Refute it at one input. -/
def greyPlaysWrong : ChangeSpec := { name := "greyPlays", fn := fun _ => fun
  | [d1, d2] => { results := [.lit (.bool false)], args := [d1, d2] }
  | _ => none }
def GreyPlaysWrongFalsely : Prop := greyPlaysRow.holds Try.pinned (OpenSpec.ofChange greyPlaysWrong)

/-- 'colloquylaw09.GreyOrder': WHATEVER THE INPUT: true; the input reads as it did. -/
def greyOrderSpec : ChangeSpec := { name := "greyOrder", fn := fun _ => fun
  | [d1, d2] => { results := [.lit (.bool true)], args := [d1, d2] }
  | _ => none }
def greyOrderRow : OpenClaim := { program := "ytgfgmhfggbfeeaa", sum := "65160ffba2f59656cfbfeb9f9faabdeabea03173fc05fcec57dd235eeb9954c6", func := "colloquy/colloquylaw09.GreyOrder", spec := "greyOrder", apart := false }
def GreyOrderSaid : Prop := greyOrderRow.holds Try.pinned (OpenSpec.ofChange greyOrderSpec)

/-- ITS FALSE NEIGHBOUR: 'it returns false'. Refute it at one input. -/
def greyOrderWrong : ChangeSpec := { name := "greyOrder", fn := fun _ => fun
  | [d1, d2] => { results := [.lit (.bool false)], args := [d1, d2] }
  | _ => none }
def GreyOrderWrongFalsely : Prop := greyOrderRow.holds Try.pinned (OpenSpec.ofChange greyOrderWrong)

/-- 'colloquylaw09.GreyMixed': WHATEVER THE INPUT: true; the input reads as it did. -/
def greyMixedSpec : ChangeSpec := { name := "greyMixed", fn := fun _ => fun
  | [d1, d2] => { results := [.lit (.bool true)], args := [d1, d2] }
  | _ => none }
def greyMixedRow : OpenClaim := { program := "ytgfgmhfggbfeeaa", sum := "65160ffba2f59656cfbfeb9f9faabdeabea03173fc05fcec57dd235eeb9954c6", func := "colloquy/colloquylaw09.GreyMixed", spec := "greyMixed", apart := false }
def GreyMixedSaid : Prop := greyMixedRow.holds Try.pinned (OpenSpec.ofChange greyMixedSpec)

/-- ITS FALSE NEIGHBOUR: 'it returns false'. Refute it at one input. -/
def greyMixedWrong : ChangeSpec := { name := "greyMixed", fn := fun _ => fun
  | [d1, d2] => { results := [.lit (.bool false)], args := [d1, d2] }
  | _ => none }
def GreyMixedWrongFalsely : Prop := greyMixedRow.holds Try.pinned (OpenSpec.ofChange greyMixedWrong)

/-- 'colloquylaw03.StoreMoves': WHATEVER THE INPUT: true; the input reads as it did. -/
def storeMovesSpec : ChangeSpec := { name := "storeMoves", fn := fun _ => fun
  | [d1, d2, d3, d4] => { results := [.lit (.bool true)], args := [d1, d2, d3, d4] }
  | _ => none }
def storeMovesRow : OpenClaim := { program := "ytgfgmhfggbfeeaa", sum := "65160ffba2f59656cfbfeb9f9faabdeabea03173fc05fcec57dd235eeb9954c6", func := "colloquy/colloquylaw03.StoreMoves", spec := "storeMoves", apart := false }
def StoreMovesSaid : Prop := storeMovesRow.holds Try.pinned (OpenSpec.ofChange storeMovesSpec)

/-- ITS FALSE NEIGHBOUR: 'it returns false'. Refute it at one input. -/
def storeMovesWrong : ChangeSpec := { name := "storeMoves", fn := fun _ => fun
  | [d1, d2, d3, d4] => { results := [.lit (.bool false)], args := [d1, d2, d3, d4] }
  | _ => none }
def StoreMovesWrongFalsely : Prop := storeMovesRow.holds Try.pinned (OpenSpec.ofChange storeMovesWrong)

/-- 'colloquylaw03.StoreKeeps': WHATEVER THE INPUT: true; the input reads as it did. -/
def storeKeepsSpec : ChangeSpec := { name := "storeKeeps", fn := fun _ => fun
  | [d1, d2] => { results := [.lit (.bool true)], args := [d1, d2] }
  | _ => none }
def storeKeepsRow : OpenClaim := { program := "ytgfgmhfggbfeeaa", sum := "65160ffba2f59656cfbfeb9f9faabdeabea03173fc05fcec57dd235eeb9954c6", func := "colloquy/colloquylaw03.StoreKeeps", spec := "storeKeeps", apart := false }
def StoreKeepsSaid : Prop := storeKeepsRow.holds Try.pinned (OpenSpec.ofChange storeKeepsSpec)

/-- ITS FALSE NEIGHBOUR: 'it returns false'. Refute it at one input. -/
def storeKeepsWrong : ChangeSpec := { name := "storeKeeps", fn := fun _ => fun
  | [d1, d2] => { results := [.lit (.bool false)], args := [d1, d2] }
  | _ => none }
def StoreKeepsWrongFalsely : Prop := storeKeepsRow.holds Try.pinned (OpenSpec.ofChange storeKeepsWrong)

/-- 'colloquylaw01.WordAll': WHATEVER THE INPUT: true; the input reads as it did. -/
def wordAllSpec : ChangeSpec := { name := "wordAll", fn := fun _ => fun
  | [d1, d2, d3] => { results := [.lit (.bool true)], args := [d1, d2, d3] }
  | _ => none }
def wordAllRow : OpenClaim := { program := "ytgfgmhfggbfeeaa", sum := "65160ffba2f59656cfbfeb9f9faabdeabea03173fc05fcec57dd235eeb9954c6", func := "colloquy/colloquylaw01.WordAll", spec := "wordAll", apart := false }
def WordAllSaid : Prop := wordAllRow.holds Try.pinned (OpenSpec.ofChange wordAllSpec)

/-- ITS FALSE NEIGHBOUR: 'it returns false'. Refute it at one input. -/
def wordAllWrong : ChangeSpec := { name := "wordAll", fn := fun _ => fun
  | [d1, d2, d3] => { results := [.lit (.bool false)], args := [d1, d2, d3] }
  | _ => none }
def WordAllWrongFalsely : Prop := wordAllRow.holds Try.pinned (OpenSpec.ofChange wordAllWrong)

/- THE SECOND FORM. 'bulk': how many values and letters a reading holds, each counted each time it is reached (what is shared counts as often as it is met; a slice's spare places count too). A statement '..UptoSaid' is the law's where the arguments, and the package variables that the reading takes, are together of bulk at most 1048576: NARROWER than '..Said'. Prove '..Said' where nothing that the law and all that it calls make is longer than what came in: it says more and counts as full. Else prove '..UptoSaid'. A law counts once. -/
mutual
def uptoBulk {H : Type} : DataW H → Nat
  | .lit (.string bytes) => bytes.length + 1
  | .lit _ => 1
  | .nil => 1
  | .ptr d => uptoBulk d + 1
  | .slice elems spare => uptoBulkAll elems + uptoBulkAll spare + 1
  | .agg parts => uptoBulkAll parts + 1
  | .iface _ d => uptoBulk d + 1
  | .map entries => uptoBulkEntries entries + 1
  | .held _ => 1
def uptoBulkAll {H : Type} : List (DataW H) → Nat
  | [] => 0
  | d :: r => uptoBulk d + uptoBulkAll r
def uptoBulkEntries {H : Type} : List (Lit × DataW H) → Nat
  | [] => 0
  | x :: r => uptoBulkEntry x + uptoBulkEntries r
def uptoBulkEntry {H : Type} : Lit × DataW H → Nat
  | (.string bytes, d) => bytes.length + uptoBulk d + 1
  | (_, d) => uptoBulk d + 1
 end
def uptoSmall : (H : Type) → List (DataW H) → Bool := fun _ ds => decide (uptoBulkAll ds ≤ 1048576)
def OpenSpec.upto (s : _root_.Go.ChangeSpec) : _root_.Go.OpenSpec := { _root_.Go.OpenSpec.ofChange s with cond := some uptoSmall }

/-- 'colloquylaw01.WordSums', WHERE WHAT IT READS IS OF BULK AT MOST 1048576: true; the input reads as it did. -/
def wordSumsUptoRow : OpenClaim := { program := "ytgfgmhfggbfeeaa", sum := "65160ffba2f59656cfbfeb9f9faabdeabea03173fc05fcec57dd235eeb9954c6", func := "colloquy/colloquylaw01.WordSums", spec := "wordSums", apart := false, narrowed := true }
def WordSumsUptoSaid : Prop := wordSumsUptoRow.holds Try.pinned (OpenSpec.upto wordSumsSpec)

/-- 'colloquylaw02.HeaderAll', WHERE WHAT IT READS IS OF BULK AT MOST 1048576: true; the input reads as it did. -/
def headerAllUptoRow : OpenClaim := { program := "ytgfgmhfggbfeeaa", sum := "65160ffba2f59656cfbfeb9f9faabdeabea03173fc05fcec57dd235eeb9954c6", func := "colloquy/colloquylaw02.HeaderAll", spec := "headerAll", apart := false, narrowed := true }
def HeaderAllUptoSaid : Prop := headerAllUptoRow.holds Try.pinned (OpenSpec.upto headerAllSpec)

/-- 'colloquylaw02.HeaderBack', WHERE WHAT IT READS IS OF BULK AT MOST 1048576: true; the input reads as it did. -/
def headerBackUptoRow : OpenClaim := { program := "ytgfgmhfggbfeeaa", sum := "65160ffba2f59656cfbfeb9f9faabdeabea03173fc05fcec57dd235eeb9954c6", func := "colloquy/colloquylaw02.HeaderBack", spec := "headerBack", apart := false, narrowed := true }
def HeaderBackUptoSaid : Prop := headerBackUptoRow.holds Try.pinned (OpenSpec.upto headerBackSpec)

/-- 'colloquylaw02.HeaderApart', WHERE WHAT IT READS IS OF BULK AT MOST 1048576: true; the input reads as it did. -/
def headerApartUptoRow : OpenClaim := { program := "ytgfgmhfggbfeeaa", sum := "65160ffba2f59656cfbfeb9f9faabdeabea03173fc05fcec57dd235eeb9954c6", func := "colloquy/colloquylaw02.HeaderApart", spec := "headerApart", apart := false, narrowed := true }
def HeaderApartUptoSaid : Prop := headerApartUptoRow.holds Try.pinned (OpenSpec.upto headerApartSpec)

/-- 'colloquylaw02.HeaderCounts', WHERE WHAT IT READS IS OF BULK AT MOST 1048576: true; the input reads as it did. -/
def headerCountsUptoRow : OpenClaim := { program := "ytgfgmhfggbfeeaa", sum := "65160ffba2f59656cfbfeb9f9faabdeabea03173fc05fcec57dd235eeb9954c6", func := "colloquy/colloquylaw02.HeaderCounts", spec := "headerCounts", apart := false, narrowed := true }
def HeaderCountsUptoSaid : Prop := headerCountsUptoRow.holds Try.pinned (OpenSpec.upto headerCountsSpec)

/-- 'colloquylaw01.WordBack', WHERE WHAT IT READS IS OF BULK AT MOST 1048576: true; the input reads as it did. -/
def wordBackUptoRow : OpenClaim := { program := "ytgfgmhfggbfeeaa", sum := "65160ffba2f59656cfbfeb9f9faabdeabea03173fc05fcec57dd235eeb9954c6", func := "colloquy/colloquylaw01.WordBack", spec := "wordBack", apart := false, narrowed := true }
def WordBackUptoSaid : Prop := wordBackUptoRow.holds Try.pinned (OpenSpec.upto wordBackSpec)

/-- 'colloquylaw01.WordCuts', WHERE WHAT IT READS IS OF BULK AT MOST 1048576: true; the input reads as it did. -/
def wordCutsUptoRow : OpenClaim := { program := "ytgfgmhfggbfeeaa", sum := "65160ffba2f59656cfbfeb9f9faabdeabea03173fc05fcec57dd235eeb9954c6", func := "colloquy/colloquylaw01.WordCuts", spec := "wordCuts", apart := false, narrowed := true }
def WordCutsUptoSaid : Prop := wordCutsUptoRow.holds Try.pinned (OpenSpec.upto wordCutsSpec)

/-- 'colloquylaw09.GreyPlays', WHERE WHAT IT READS IS OF BULK AT MOST 1048576: true; the input reads as it did. -/
def greyPlaysUptoRow : OpenClaim := { program := "ytgfgmhfggbfeeaa", sum := "65160ffba2f59656cfbfeb9f9faabdeabea03173fc05fcec57dd235eeb9954c6", func := "colloquy/colloquylaw09.GreyPlays", spec := "greyPlays", apart := false, narrowed := true }
def GreyPlaysUptoSaid : Prop := greyPlaysUptoRow.holds Try.pinned (OpenSpec.upto greyPlaysSpec)

/-- 'colloquylaw09.GreyOrder', WHERE WHAT IT READS IS OF BULK AT MOST 1048576: true; the input reads as it did. -/
def greyOrderUptoRow : OpenClaim := { program := "ytgfgmhfggbfeeaa", sum := "65160ffba2f59656cfbfeb9f9faabdeabea03173fc05fcec57dd235eeb9954c6", func := "colloquy/colloquylaw09.GreyOrder", spec := "greyOrder", apart := false, narrowed := true }
def GreyOrderUptoSaid : Prop := greyOrderUptoRow.holds Try.pinned (OpenSpec.upto greyOrderSpec)

/-- 'colloquylaw09.GreyMixed', WHERE WHAT IT READS IS OF BULK AT MOST 1048576: true; the input reads as it did. -/
def greyMixedUptoRow : OpenClaim := { program := "ytgfgmhfggbfeeaa", sum := "65160ffba2f59656cfbfeb9f9faabdeabea03173fc05fcec57dd235eeb9954c6", func := "colloquy/colloquylaw09.GreyMixed", spec := "greyMixed", apart := false, narrowed := true }
def GreyMixedUptoSaid : Prop := greyMixedUptoRow.holds Try.pinned (OpenSpec.upto greyMixedSpec)

/-- 'colloquylaw03.StoreMoves', WHERE WHAT IT READS IS OF BULK AT MOST 1048576: true; the input reads as it did. -/
def storeMovesUptoRow : OpenClaim := { program := "ytgfgmhfggbfeeaa", sum := "65160ffba2f59656cfbfeb9f9faabdeabea03173fc05fcec57dd235eeb9954c6", func := "colloquy/colloquylaw03.StoreMoves", spec := "storeMoves", apart := false, narrowed := true }
def StoreMovesUptoSaid : Prop := storeMovesUptoRow.holds Try.pinned (OpenSpec.upto storeMovesSpec)

/-- 'colloquylaw03.StoreKeeps', WHERE WHAT IT READS IS OF BULK AT MOST 1048576: true; the input reads as it did. -/
def storeKeepsUptoRow : OpenClaim := { program := "ytgfgmhfggbfeeaa", sum := "65160ffba2f59656cfbfeb9f9faabdeabea03173fc05fcec57dd235eeb9954c6", func := "colloquy/colloquylaw03.StoreKeeps", spec := "storeKeeps", apart := false, narrowed := true }
def StoreKeepsUptoSaid : Prop := storeKeepsUptoRow.holds Try.pinned (OpenSpec.upto storeKeepsSpec)

/-- 'colloquylaw01.WordAll', WHERE WHAT IT READS IS OF BULK AT MOST 1048576: true; the input reads as it did. -/
def wordAllUptoRow : OpenClaim := { program := "ytgfgmhfggbfeeaa", sum := "65160ffba2f59656cfbfeb9f9faabdeabea03173fc05fcec57dd235eeb9954c6", func := "colloquy/colloquylaw01.WordAll", spec := "wordAll", apart := false, narrowed := true }
def WordAllUptoSaid : Prop := wordAllUptoRow.holds Try.pinned (OpenSpec.upto wordAllSpec)

end Rows
end Go.Proofs.Ytgfgmhfggbfeeaa
