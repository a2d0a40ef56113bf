/-
  No cell of these rows narrows 'for every input' (looked for: loops, veiled, ifaces, maps, wideKeys, modest, calm, conditions, laid).
  DERIVED. THE GIVEN ROWS OF THIS SEAT. 8 by the template 'for every input the law returns true; each argument reads behind the call as it read before'; 0 by the template 'total and deterministic' (their statements: YtiffoapjhkapfaaTotals.lean).
  GIVEN WITH THE SEED: the statements are not yours to turn. If you find one false, say at which input.
  Laid BY PROGRAM, IN A SANDBOX (cutbox-rows.mjs): the forced cells as the released guide's own fill.sh prints them over the translation 46fa56bd681c14f8… (all of the seat's roots in one cut). By AI agents, Wed Nov 11 2026. No macro, syntax, notation, axiom, sorry.
-/
import Derived.Test.YtiffoapjhkapfaaChecked
import GoSem.Claim
import GoSem.ClaimJoined
import GoSem.ClaimMapViews
import Derived.JoinedTies
import Derived.KernelRfl
namespace Go.Proofs.Ytiffoapjhkapfaa
/- THE CELL 'sum', in the pinned program and in every row, IS THE sha256 OF THE DUMP (.gsa) THAT YtiffoapjhkapfaaProg.lean LOADS. Nothing in Lean hashes anything: it is a label: what it is worth is what the hold of that sum in a sandbox is worth. -/
noncomputable def Try.pinned : Pinned := { name := "ytiffoapjhkapfaa", sum := "46fa56bd681c14f89dedf36a5e3030c978d8f7024649b8178eed434fb327d659", checked := Try.checked }
namespace Rows
def none {H : Type} : Left H := { results := [], args := [] }

/-- 'colloquylaw05.HeapWalks': WHATEVER THE INPUT: true; the input reads as it did. -/
def heapWalksSpec : ChangeSpec := { name := "heapWalks", fn := fun _ => fun
  | [d] => { results := [.lit (.bool true)], args := [d] }
  | _ => none }
def heapWalksRow : OpenClaim := { program := "ytiffoapjhkapfaa", sum := "46fa56bd681c14f89dedf36a5e3030c978d8f7024649b8178eed434fb327d659", func := "colloquy/colloquylaw05.HeapWalks", spec := "heapWalks", apart := false }
def HeapWalksSaid : Prop := heapWalksRow.holds Try.pinned (OpenSpec.ofChange heapWalksSpec)

/-- ITS FALSE NEIGHBOUR: 'it returns false'. Refute it at one input. -/
def heapWalksWrong : ChangeSpec := { name := "heapWalks", fn := fun _ => fun
  | [d] => { results := [.lit (.bool false)], args := [d] }
  | _ => none }
def HeapWalksWrongFalsely : Prop := heapWalksRow.holds Try.pinned (OpenSpec.ofChange heapWalksWrong)

/-- 'colloquylaw05.HeapRefuses': WHATEVER THE INPUT: true; the input reads as it did. -/
def heapRefusesSpec : ChangeSpec := { name := "heapRefuses", fn := fun _ => fun
  | [d1, d2] => { results := [.lit (.bool true)], args := [d1, d2] }
  | _ => none }
def heapRefusesRow : OpenClaim := { program := "ytiffoapjhkapfaa", sum := "46fa56bd681c14f89dedf36a5e3030c978d8f7024649b8178eed434fb327d659", func := "colloquy/colloquylaw05.HeapRefuses", spec := "heapRefuses", apart := false }
def HeapRefusesSaid : Prop := heapRefusesRow.holds Try.pinned (OpenSpec.ofChange heapRefusesSpec)

/-- ITS FALSE NEIGHBOUR: 'it returns false'. Refute it at one input. -/
def heapRefusesWrong : ChangeSpec := { name := "heapRefuses", fn := fun _ => fun
  | [d1, d2] => { results := [.lit (.bool false)], args := [d1, d2] }
  | _ => none }
def HeapRefusesWrongFalsely : Prop := heapRefusesRow.holds Try.pinned (OpenSpec.ofChange heapRefusesWrong)

/-- 'colloquylaw04.FreeBest': WHATEVER THE INPUT: true; the input reads as it did. -/
def freeBestSpec : ChangeSpec := { name := "freeBest", fn := fun _ => fun
  | [d1, d2] => { results := [.lit (.bool true)], args := [d1, d2] }
  | _ => none }
def freeBestRow : OpenClaim := { program := "ytiffoapjhkapfaa", sum := "46fa56bd681c14f89dedf36a5e3030c978d8f7024649b8178eed434fb327d659", func := "colloquy/colloquylaw04.FreeBest", spec := "freeBest", inPlace := ["slices.overlaps[[2]int]"], unfollowed := true, recurses := true, apart := false }
def FreeBestSaid : Prop := freeBestRow.holds Try.pinned (OpenSpec.ofChange freeBestSpec)

/-- ITS FALSE NEIGHBOUR: 'it returns false'. Refute it at one input. -/
def freeBestWrong : ChangeSpec := { name := "freeBest", fn := fun _ => fun
  | [d1, d2] => { results := [.lit (.bool false)], args := [d1, d2] }
  | _ => none }
def FreeBestWrongFalsely : Prop := freeBestRow.holds Try.pinned (OpenSpec.ofChange freeBestWrong)

/-- 'colloquylaw04.FreeJoins': WHATEVER THE INPUT: true; the input reads as it did. -/
def freeJoinsSpec : ChangeSpec := { name := "freeJoins", fn := fun _ => fun
  | [d1, d2, d3, d4] => { results := [.lit (.bool true)], args := [d1, d2, d3, d4] }
  | _ => none }
def freeJoinsRow : OpenClaim := { program := "ytiffoapjhkapfaa", sum := "46fa56bd681c14f89dedf36a5e3030c978d8f7024649b8178eed434fb327d659", func := "colloquy/colloquylaw04.FreeJoins", spec := "freeJoins", inPlace := ["slices.overlaps[[2]int]"], unfollowed := true, recurses := true, apart := false }
def FreeJoinsSaid : Prop := freeJoinsRow.holds Try.pinned (OpenSpec.ofChange freeJoinsSpec)

/-- ITS FALSE NEIGHBOUR: 'it returns false'. Refute it at one input. -/
def freeJoinsWrong : ChangeSpec := { name := "freeJoins", fn := fun _ => fun
  | [d1, d2, d3, d4] => { results := [.lit (.bool false)], args := [d1, d2, d3, d4] }
  | _ => none }
def FreeJoinsWrongFalsely : Prop := freeJoinsRow.holds Try.pinned (OpenSpec.ofChange freeJoinsWrong)

/-- 'colloquylaw04.FreeTakes': WHATEVER THE INPUT: true; the input reads as it did. -/
def freeTakesSpec : ChangeSpec := { name := "freeTakes", fn := fun _ => fun
  | [d1, d2, d3] => { results := [.lit (.bool true)], args := [d1, d2, d3] }
  | _ => none }
def freeTakesRow : OpenClaim := { program := "ytiffoapjhkapfaa", sum := "46fa56bd681c14f89dedf36a5e3030c978d8f7024649b8178eed434fb327d659", func := "colloquy/colloquylaw04.FreeTakes", spec := "freeTakes", inPlace := ["slices.overlaps[[2]int]"], unfollowed := true, recurses := true, apart := false }
def FreeTakesSaid : Prop := freeTakesRow.holds Try.pinned (OpenSpec.ofChange freeTakesSpec)

/-- ITS FALSE NEIGHBOUR: 'it returns false'. Refute it at one input. -/
def freeTakesWrong : ChangeSpec := { name := "freeTakes", fn := fun _ => fun
  | [d1, d2, d3] => { results := [.lit (.bool false)], args := [d1, d2, d3] }
  | _ => none }
def FreeTakesWrongFalsely : Prop := freeTakesRow.holds Try.pinned (OpenSpec.ofChange freeTakesWrong)

/-- 'colloquylaw05.HeapKeeps': WHATEVER THE INPUT: true; the input reads as it did. -/
def heapKeepsSpec : ChangeSpec := { name := "heapKeeps", fn := fun _ => fun
  | [d] => { results := [.lit (.bool true)], args := [d] }
  | _ => none }
def heapKeepsRow : OpenClaim := { program := "ytiffoapjhkapfaa", sum := "46fa56bd681c14f89dedf36a5e3030c978d8f7024649b8178eed434fb327d659", func := "colloquy/colloquylaw05.HeapKeeps", spec := "heapKeeps", inPlace := ["slices.overlaps[[2]int]"], unfollowed := true, recurses := true, apart := false }
def HeapKeepsSaid : Prop := heapKeepsRow.holds Try.pinned (OpenSpec.ofChange heapKeepsSpec)

/-- ITS FALSE NEIGHBOUR: 'it returns false'. Refute it at one input. -/
def heapKeepsWrong : ChangeSpec := { name := "heapKeeps", fn := fun _ => fun
  | [d] => { results := [.lit (.bool false)], args := [d] }
  | _ => none }
def HeapKeepsWrongFalsely : Prop := heapKeepsRow.holds Try.pinned (OpenSpec.ofChange heapKeepsWrong)

/-- 'colloquylaw05.HeapBytes': WHATEVER THE INPUT: true; the input reads as it did. -/
def heapBytesSpec : ChangeSpec := { name := "heapBytes", fn := fun _ => fun
  | [d1, d2] => { results := [.lit (.bool true)], args := [d1, d2] }
  | _ => none }
def heapBytesRow : OpenClaim := { program := "ytiffoapjhkapfaa", sum := "46fa56bd681c14f89dedf36a5e3030c978d8f7024649b8178eed434fb327d659", func := "colloquy/colloquylaw05.HeapBytes", spec := "heapBytes", inPlace := ["slices.overlaps[[2]int]"], unfollowed := true, recurses := true, apart := false }
def HeapBytesSaid : Prop := heapBytesRow.holds Try.pinned (OpenSpec.ofChange heapBytesSpec)

/-- ITS FALSE NEIGHBOUR: 'it returns false'. Refute it at one input. -/
def heapBytesWrong : ChangeSpec := { name := "heapBytes", fn := fun _ => fun
  | [d1, d2] => { results := [.lit (.bool false)], args := [d1, d2] }
  | _ => none }
def HeapBytesWrongFalsely : Prop := heapBytesRow.holds Try.pinned (OpenSpec.ofChange heapBytesWrong)

/-- 'colloquylaw05.HeapPlays': WHATEVER THE INPUT: true; the input reads as it did. -/
def heapPlaysSpec : ChangeSpec := { name := "heapPlays", fn := fun _ => fun
  | [d1, d2] => { results := [.lit (.bool true)], args := [d1, d2] }
  | _ => none }
def heapPlaysRow : OpenClaim := { program := "ytiffoapjhkapfaa", sum := "46fa56bd681c14f89dedf36a5e3030c978d8f7024649b8178eed434fb327d659", func := "colloquy/colloquylaw05.HeapPlays", spec := "heapPlays", inPlace := ["slices.overlaps[[2]int]"], unfollowed := true, recurses := true, apart := false }
def HeapPlaysSaid : Prop := heapPlaysRow.holds Try.pinned (OpenSpec.ofChange heapPlaysSpec)

/-- ITS FALSE NEIGHBOUR: 'it returns false'. Refute it at one input. -/
def heapPlaysWrong : ChangeSpec := { name := "heapPlays", fn := fun _ => fun
  | [d1, d2] => { results := [.lit (.bool false)], args := [d1, d2] }
  | _ => none }
def HeapPlaysWrongFalsely : Prop := heapPlaysRow.holds Try.pinned (OpenSpec.ofChange heapPlaysWrong)

/- THE SECOND FORM. 'bulk': how many values and letters a reading holds, each counted each time it is reached (what is shared counts as often as it is met; a slice's spare places count too). A statement '..UptoSaid' is the law's where the arguments, and the package variables that the reading takes, are together of bulk at most 1048576: NARROWER than '..Said'. Prove '..Said' where nothing that the law and all that it calls make is longer than what came in: it says more and counts as full. Else prove '..UptoSaid'. A law counts once. -/
mutual
def uptoBulk {H : Type} : DataW H → Nat
  | .lit (.string bytes) => bytes.length + 1
  | .lit _ => 1
  | .nil => 1
  | .ptr d => uptoBulk d + 1
  | .slice elems spare => uptoBulkAll elems + uptoBulkAll spare + 1
  | .agg parts => uptoBulkAll parts + 1
  | .iface _ d => uptoBulk d + 1
  | .map entries => uptoBulkEntries entries + 1
  | .held _ => 1
def uptoBulkAll {H : Type} : List (DataW H) → Nat
  | [] => 0
  | d :: r => uptoBulk d + uptoBulkAll r
def uptoBulkEntries {H : Type} : List (Lit × DataW H) → Nat
  | [] => 0
  | x :: r => uptoBulkEntry x + uptoBulkEntries r
def uptoBulkEntry {H : Type} : Lit × DataW H → Nat
  | (.string bytes, d) => bytes.length + uptoBulk d + 1
  | (_, d) => uptoBulk d + 1
 end
def uptoSmall : (H : Type) → List (DataW H) → Bool := fun _ ds => decide (uptoBulkAll ds ≤ 1048576)
def OpenSpec.upto (s : _root_.Go.ChangeSpec) : _root_.Go.OpenSpec := { _root_.Go.OpenSpec.ofChange s with cond := some uptoSmall }

/-- 'colloquylaw05.HeapWalks', WHERE WHAT IT READS IS OF BULK AT MOST 1048576: true; the input reads as it did. -/
def heapWalksUptoRow : OpenClaim := { program := "ytiffoapjhkapfaa", sum := "46fa56bd681c14f89dedf36a5e3030c978d8f7024649b8178eed434fb327d659", func := "colloquy/colloquylaw05.HeapWalks", spec := "heapWalks", apart := false, narrowed := true }
def HeapWalksUptoSaid : Prop := heapWalksUptoRow.holds Try.pinned (OpenSpec.upto heapWalksSpec)

/-- 'colloquylaw05.HeapRefuses', WHERE WHAT IT READS IS OF BULK AT MOST 1048576: true; the input reads as it did. -/
def heapRefusesUptoRow : OpenClaim := { program := "ytiffoapjhkapfaa", sum := "46fa56bd681c14f89dedf36a5e3030c978d8f7024649b8178eed434fb327d659", func := "colloquy/colloquylaw05.HeapRefuses", spec := "heapRefuses", apart := false, narrowed := true }
def HeapRefusesUptoSaid : Prop := heapRefusesUptoRow.holds Try.pinned (OpenSpec.upto heapRefusesSpec)

/-- 'colloquylaw04.FreeBest', WHERE WHAT IT READS IS OF BULK AT MOST 1048576: true; the input reads as it did. -/
def freeBestUptoRow : OpenClaim := { program := "ytiffoapjhkapfaa", sum := "46fa56bd681c14f89dedf36a5e3030c978d8f7024649b8178eed434fb327d659", func := "colloquy/colloquylaw04.FreeBest", spec := "freeBest", inPlace := ["slices.overlaps[[2]int]"], unfollowed := true, recurses := true, apart := false, narrowed := true }
def FreeBestUptoSaid : Prop := freeBestUptoRow.holds Try.pinned (OpenSpec.upto freeBestSpec)

/-- 'colloquylaw04.FreeJoins', WHERE WHAT IT READS IS OF BULK AT MOST 1048576: true; the input reads as it did. -/
def freeJoinsUptoRow : OpenClaim := { program := "ytiffoapjhkapfaa", sum := "46fa56bd681c14f89dedf36a5e3030c978d8f7024649b8178eed434fb327d659", func := "colloquy/colloquylaw04.FreeJoins", spec := "freeJoins", inPlace := ["slices.overlaps[[2]int]"], unfollowed := true, recurses := true, apart := false, narrowed := true }
def FreeJoinsUptoSaid : Prop := freeJoinsUptoRow.holds Try.pinned (OpenSpec.upto freeJoinsSpec)

/-- 'colloquylaw04.FreeTakes', WHERE WHAT IT READS IS OF BULK AT MOST 1048576: true; the input reads as it did. -/
def freeTakesUptoRow : OpenClaim := { program := "ytiffoapjhkapfaa", sum := "46fa56bd681c14f89dedf36a5e3030c978d8f7024649b8178eed434fb327d659", func := "colloquy/colloquylaw04.FreeTakes", spec := "freeTakes", inPlace := ["slices.overlaps[[2]int]"], unfollowed := true, recurses := true, apart := false, narrowed := true }
def FreeTakesUptoSaid : Prop := freeTakesUptoRow.holds Try.pinned (OpenSpec.upto freeTakesSpec)

/-- 'colloquylaw05.HeapKeeps', WHERE WHAT IT READS IS OF BULK AT MOST 1048576: true; the input reads as it did. -/
def heapKeepsUptoRow : OpenClaim := { program := "ytiffoapjhkapfaa", sum := "46fa56bd681c14f89dedf36a5e3030c978d8f7024649b8178eed434fb327d659", func := "colloquy/colloquylaw05.HeapKeeps", spec := "heapKeeps", inPlace := ["slices.overlaps[[2]int]"], unfollowed := true, recurses := true, apart := false, narrowed := true }
def HeapKeepsUptoSaid : Prop := heapKeepsUptoRow.holds Try.pinned (OpenSpec.upto heapKeepsSpec)

/-- 'colloquylaw05.HeapBytes', WHERE WHAT IT READS IS OF BULK AT MOST 1048576: true; the input reads as it did. -/
def heapBytesUptoRow : OpenClaim := { program := "ytiffoapjhkapfaa", sum := "46fa56bd681c14f89dedf36a5e3030c978d8f7024649b8178eed434fb327d659", func := "colloquy/colloquylaw05.HeapBytes", spec := "heapBytes", inPlace := ["slices.overlaps[[2]int]"], unfollowed := true, recurses := true, apart := false, narrowed := true }
def HeapBytesUptoSaid : Prop := heapBytesUptoRow.holds Try.pinned (OpenSpec.upto heapBytesSpec)

/-- 'colloquylaw05.HeapPlays', WHERE WHAT IT READS IS OF BULK AT MOST 1048576: true; the input reads as it did. -/
def heapPlaysUptoRow : OpenClaim := { program := "ytiffoapjhkapfaa", sum := "46fa56bd681c14f89dedf36a5e3030c978d8f7024649b8178eed434fb327d659", func := "colloquy/colloquylaw05.HeapPlays", spec := "heapPlays", inPlace := ["slices.overlaps[[2]int]"], unfollowed := true, recurses := true, apart := false, narrowed := true }
def HeapPlaysUptoSaid : Prop := heapPlaysUptoRow.holds Try.pinned (OpenSpec.upto heapPlaysSpec)

end Rows
end Go.Proofs.Ytiffoapjhkapfaa
