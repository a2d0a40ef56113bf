/-
  WorldPlain, as one text (a claim has at most 60 files).
-/
import Derived.Test.YtjpalcejmloocaaGreatCt01
namespace Go.Proofs.YtjpalcejmloocaaGreat.World
open Go.RowKit Go.Proofs.YtjpalcejmloocaaGreat.Plain
set_option linter.unusedVariables false

structure PV where
  obj : Bool
  n : Int
structure PT where
  cls : Int
  fmt : Int
  hash : Int
  fin : Bool
  F : List PV
  B : ByteArray
structure PR where
  proc : Int
  frame : Int
  ready : List Int
  wait : List (Int × Int)
  due : List Int
  out : ByteArray
  inp : ByteArray
  how : Int
  exit : Int
  snaps : List ByteArray
structure PW where
  L : List PT
  dead : List Bool
  last : Int
  R : PR
def dV : PV := ⟨false, 0⟩
def dT : PT := ⟨0, 0, 0, false, [], ByteArray.empty⟩
def vAt (F : List PV) (i : Nat) : PV := F.getD i dV
def tAt (L : List PT) (i : Nat) : PT := L.getD i dT

theorem calls_name {P : Program} {f : FuncId} {args : Array Value} {w : World} {Q : Ending → World → Prop} (h : ∀ W, W = w → Calls P f args W Q) : Calls P f args w Q := h w rfl
theorem then_name {K : Act → World → Prop} {Q : Exit → Act → World → Prop} {ex : Exit} {a : Act} {w : World} (h : ∀ W, W = w → Exit.then K Q ex a W) : Exit.then K Q ex a w := h w rfl
/-! ### all below a number -/
def allTo (f : Nat → Bool) : Nat → Bool
  | 0 => true
  | n + 1 => allTo f n && f n
theorem allTo_iff (f : Nat → Bool) (n : Nat) : allTo f n = true ↔ ∀ i, i < n → f i = true := by
  induction n with
  | zero => exact ⟨fun _ i hi => by omega, fun _ => rfl⟩
  | succ n ih =>
    rw [allTo, Bool.and_eq_true, ih]
    constructor
    · rintro ⟨h1, h2⟩ i hi
      rcases Nat.lt_or_ge i n with h3 | h3
      · exact h1 i h3
      · obtain rfl : i = n := by omega
        exact h2
    · exact fun h => ⟨fun i hi => h i (by omega), h n (by omega)⟩
theorem allTo_false (f : Nat → Bool) (n i : Nat) (hi : i < n) (hf : f i = false) : allTo f n = false := by
  rw [Bool.eq_false_iff]
  intro h
  rw [(allTo_iff f n).1 h i hi] at hf
  cases hf

/-! ### which worlds may be -/
def liveB (W : PW) (i : Int) : Bool := decide (0 ≤ i ∧ i < W.L.length) && !(W.dead.getD i.toNat false)
def numB (v : PV) (lo hi : Int) : Bool := !v.obj && decide (lo ≤ v.n ∧ v.n ≤ hi)
def isClsB (t : PT) : Bool := decide (t.fmt = 1) && (decide (5 ≤ t.F.length) && (numB (vAt t.F 3) 0 60 && numB (vAt t.F 4) 1 3))
/-- a field that may be, of a world of n things -/
def fldB (n : Nat) (v : PV) : Bool := if v.obj then decide (0 ≤ v.n ∧ v.n < n) else fitsB v.n
def fldsB (n : Nat) (F : List PV) : Bool := allTo (fun j => fldB n (vAt F j)) F.length
def shapeB (n : Nat) (t : PT) : Bool :=
  if t.fmt = 3 then decide (t.F.length = 0) && decide (t.B.size ≤ 200)
  else if t.fmt = 1 ∨ t.fmt = 2 then decide (t.B.size = 0) && (decide (t.F.length ≤ 60) && fldsB n t.F)
  else false
def liveF (W : PW) (F : List PV) : Bool := allTo (fun j => !(vAt F j).obj || liveB W (vAt F j).n) F.length
def thingB (W : PW) (i : Nat) : Bool :=
  decide (0 ≤ (tAt W.L i).cls ∧ (tAt W.L i).cls < W.L.length) && (shapeB W.L.length (tAt W.L i) &&
    (if liveB W i then liveB W (tAt W.L i).cls && (isClsB (tAt W.L (tAt W.L i).cls.toNat) && liveF W (tAt W.L i).F) else decide (23 ≤ i)))
def prevH (L : List PT) : Nat → Int
  | 0 => 0
  | i + 1 => (tAt L i).hash
def oneB (W : PW) (i : Nat) : Bool := decide (prevH W.L i < (tAt W.L i).hash) && (decide ((tAt W.L i).hash ≤ 3000) && thingB W i)
def thingsB (W : PW) : Bool := allTo (oneB W) W.L.length && (decide (prevH W.L W.L.length ≤ W.last) && decide (W.last ≤ 3000))
def spec1B (W : PW) (i : Nat) : Bool :=
  if i ≤ 2 then decide ((tAt W.L i).cls = 3 + i) else if i ≤ 18 then decide ((tAt W.L i).cls = 10) else if i < 22 then decide ((tAt W.L i).fmt = 3) else decide ((tAt W.L i).fmt = 1)
def specB (W : PW) : Bool := allTo (spec1B W) 23
def thereB (W : PW) (i : Int) : Bool := !decide (i = 0) && liveB W i
def thereL (W : PW) (l : List Int) : Bool := allTo (fun j => thereB W (l.getD j 0)) l.length
def onceB (l : List Int) : Bool := allTo (fun j => !(l.take j).contains (l.getD j 0)) l.length
def wAt (l : List (Int × Int)) (i : Nat) : Int × Int := l.getD i (0, 0)
def waitB (W : PW) (l : List (Int × Int)) : Bool := allTo (fun j => thereB W (wAt l j).1 && thereB W (wAt l j).2) l.length
def sAt (l : List ByteArray) (i : Nat) : ByteArray := l.getD i ByteArray.empty
def snapsB (l : List ByteArray) : Bool := allTo (fun j => decide ((sAt l j).size ≤ 65536)) l.length
def regsB (W : PW) : Bool :=
  (decide (W.R.proc = 0) || thereB W W.R.proc) && ((decide (W.R.frame = 0) || thereB W W.R.frame) && (thereL W W.R.ready && (thereL W W.R.due && (onceB W.R.due && (waitB W W.R.wait &&
    (decide (W.R.ready.length ≤ 20 ∧ W.R.wait.length ≤ 20 ∧ W.R.due.length ≤ 3000 ∧ W.R.snaps.length ≤ 20 ∧ W.R.out.size ≤ 4096 ∧ W.R.inp.size ≤ 4096 ∧ 0 ≤ W.R.how ∧ W.R.how ≤ 4 ∧ 0 ≤ W.R.exit ∧ W.R.exit ≤ 255) && snapsB W.R.snaps))))))
def checkB (W : PW) : Bool := decide (23 ≤ W.L.length ∧ W.L.length ≤ 3000) && (decide (W.dead.length = 0 ∨ W.dead.length = W.L.length) && (thingsB W && (specB W && regsB W)))

/-! ### how they lie in memory -/
/-- a slice of n elements of sz cells each: element i's cell j is c i j -/
structure Row (w : World) (v : Value) (n sz : Nat) (c : Nat → Nat → Value) : Prop where
  ex : ∃ A cap, v = .slice A n cap ∧ n ≤ cap ∧ cap ≤ 9223372036854775807 ∧ ∀ i, i < n → ∃ b off, A = some ⟨b, off, none⟩ ∧ b < w.heap.size ∧ ∀ j, j < sz → w.cell? ⟨b, off + i * sz + j, none⟩ = some (c i j)
theorem Row.ext {w w' : World} {v : Value} {n sz : Nat} {c : Nat → Nat → Value} (h : Row w v n sz c) (x : Ext w w') : Row w' v n sz c := by
  obtain ⟨A, cap, e, h1, h2, h3⟩ := h.ex
  refine ⟨A, cap, e, h1, h2, fun i hi => ?_⟩
  obtain ⟨b, off, ea, hb, hc⟩ := h3 i hi
  exact ⟨b, off, ea, by have := x.below.size; omega, fun j hj => (x.below.cell (p := ⟨b, off + i * sz + j, none⟩) hb).trans (hc j hj)⟩
theorem Row.congr {w : World} {v : Value} {n sz : Nat} {c c' : Nat → Nat → Value} (h : Row w v n sz c) (e : ∀ i j, i < n → j < sz → c i j = c' i j) : Row w v n sz c' := by
  obtain ⟨A, cap, ea, h1, h2, h3⟩ := h.ex
  refine ⟨A, cap, ea, h1, h2, fun i hi => ?_⟩
  obtain ⟨b, off, eb, hb, hc⟩ := h3 i hi
  exact ⟨b, off, eb, hb, fun j hj => by rw [← e i j hi hj]; exact hc j hj⟩
def cV (v : PV) : Nat → Value
  | 0 => .bool v.obj
  | _ => .int .i64 v.n
def ValsAt (w : World) (v : Value) (F : List PV) : Prop := Row w v F.length 2 (fun i j => cV (vAt F i) j)
def IntsAt (w : World) (v : Value) (l : List Int) : Prop := Row w v l.length 1 (fun i _ => .int .i64 (l.getD i 0))
def BoolsAt (w : World) (v : Value) (l : List Bool) : Prop := Row w v l.length 1 (fun i _ => .bool (l.getD i false))
def StrsAt (w : World) (v : Value) (l : List ByteArray) : Prop := Row w v l.length 1 (fun i _ => .string (sAt l i))
def cW (x : Int × Int) : Nat → Value
  | 0 => .int .i64 x.1
  | _ => .int .i64 x.2
def WaitsAt (w : World) (v : Value) (l : List (Int × Int)) : Prop := Row w v l.length 2 (fun i j => cW (wAt l i) j)
/-- a thing's cells, vF its fields' slice -/
def cT (t : PT) (vF : Value) : Nat → Value
  | 0 => .int .i64 t.cls
  | 1 => .int .i64 t.fmt
  | 2 => .int .i64 t.hash
  | 3 => .bool t.fin
  | 4 => vF
  | _ => .string t.B
structure ThingsAt (w : World) (v : Value) (L : List PT) (fs : Nat → Value) : Prop where
  row : Row w v L.length 6 (fun i j => cT (tAt L i) (fs i) j)
  flds : ∀ i, i < L.length → ValsAt w (fs i) (tAt L i).F
/-- the values of a world's slices -/
structure WV where
  L : Value
  fs : Nat → Value
  dead : Value
  ready : Value
  wait : Value
  due : Value
  snaps : Value
def cellsW (W : PW) (x : WV) : Array Value := #[x.L, x.dead, .int .i64 W.last, .int .i64 W.R.proc, .int .i64 W.R.frame, x.ready, x.wait, x.due, .string W.R.out, .string W.R.inp, .int .i64 W.R.how, .int .i64 W.R.exit, x.snaps]
/-- numbers that a machine holds -/
def in64 (n : Int) : Prop := -9223372036854775808 ≤ n ∧ n ≤ 9223372036854775807
structure Nums (W : PW) : Prop where
  last : in64 W.last
  proc : in64 W.R.proc
  frame : in64 W.R.frame
  how : in64 W.R.how
  exit : in64 W.R.exit
  out : W.R.out.size ≤ maxLen
  inp : W.R.inp.size ≤ maxLen
  ready : ∀ x ∈ W.R.ready, in64 x
  due : ∀ x ∈ W.R.due, in64 x
  wait : ∀ x ∈ W.R.wait, in64 x.1 ∧ in64 x.2
  snaps : ∀ s ∈ W.R.snaps, s.size ≤ maxLen
  things : ∀ t ∈ W.L, in64 t.cls ∧ in64 t.fmt ∧ in64 t.hash ∧ t.B.size ≤ maxLen ∧ ∀ v ∈ t.F, in64 v.n
/-- a world lies in memory -/
structure WorldAt (w : World) (x : WV) (W : PW) : Prop where
  L : ThingsAt w x.L W.L x.fs
  dead : BoolsAt w x.dead W.dead
  ready : IntsAt w x.ready W.R.ready
  wait : WaitsAt w x.wait W.R.wait
  due : IntsAt w x.due W.R.due
  snaps : StrsAt w x.snaps W.R.snaps
  nums : Nums W
section
variable {w w' : World}
theorem ValsAt.ext {v : Value} {F : List PV} (h : ValsAt w v F) (x : Ext w w') : ValsAt w' v F := Row.ext h x
theorem IntsAt.ext {v : Value} {l : List Int} (h : IntsAt w v l) (x : Ext w w') : IntsAt w' v l := Row.ext h x
theorem BoolsAt.ext {v : Value} {l : List Bool} (h : BoolsAt w v l) (x : Ext w w') : BoolsAt w' v l := Row.ext h x
theorem StrsAt.ext {v : Value} {l : List ByteArray} (h : StrsAt w v l) (x : Ext w w') : StrsAt w' v l := Row.ext h x
theorem WaitsAt.ext {v : Value} {l : List (Int × Int)} (h : WaitsAt w v l) (x : Ext w w') : WaitsAt w' v l := Row.ext h x
theorem ThingsAt.ext {v : Value} {L : List PT} {fs : Nat → Value} (h : ThingsAt w v L fs) (x : Ext w w') : ThingsAt w' v L fs := ⟨h.row.ext x, fun i hi => (h.flds i hi).ext x⟩
theorem WorldAt.ext {x : WV} {W : PW} (h : WorldAt w x W) (e : Ext w w') : WorldAt w' x W := ⟨h.L.ext e, h.dead.ext e, h.ready.ext e, h.wait.ext e, h.due.ext e, h.snaps.ext e, h.nums⟩
end
end Go.Proofs.YtjpalcejmloocaaGreat.World
