/-
  WorldPlain, MemPlain, FirstPlain, LoadPlain, as one text (a claim has at most 60 files).
-/
import Derived.Test.YtjpalcejmloocaaGreatVq01
import Derived.Test.YtjpalcejmloocaaGreatVq11
namespace Go.Proofs.YtjpalcejmloocaaGreat.World
open Go.RowKit Go.Proofs.YtjpalcejmloocaaGreat.Plain
set_option linter.unusedVariables false

structure PV where
  obj : Bool
  n : Int
structure PT where
  cls : Int
  fmt : Int
  hash : Int
  fin : Bool
  F : List PV
  B : ByteArray
structure PR where
  proc : Int
  frame : Int
  ready : List Int
  wait : List (Int × Int)
  due : List Int
  out : ByteArray
  inp : ByteArray
  how : Int
  exit : Int
  snaps : List ByteArray
structure PW where
  L : List PT
  dead : List Bool
  last : Int
  R : PR
def dV : PV := ⟨false, 0⟩
def dT : PT := ⟨0, 0, 0, false, [], ByteArray.empty⟩
def vAt (F : List PV) (i : Nat) : PV := F.getD i dV
def tAt (L : List PT) (i : Nat) : PT := L.getD i dT

theorem calls_name {P : Program} {f : FuncId} {args : Array Value} {w : World} {Q : Ending → World → Prop} (h : ∀ W, W = w → Calls P f args W Q) : Calls P f args w Q := h w rfl
theorem then_name {K : Act → World → Prop} {Q : Exit → Act → World → Prop} {ex : Exit} {a : Act} {w : World} (h : ∀ W, W = w → Exit.then K Q ex a W) : Exit.then K Q ex a w := h w rfl
/-! ### all below a number -/
def allTo (f : Nat → Bool) : Nat → Bool
  | 0 => true
  | n + 1 => allTo f n && f n
theorem allTo_iff (f : Nat → Bool) (n : Nat) : allTo f n = true ↔ ∀ i, i < n → f i = true := by
  induction n with
  | zero => exact ⟨fun _ i hi => by omega, fun _ => rfl⟩
  | succ n ih =>
    rw [allTo, Bool.and_eq_true, ih]
    constructor
    · rintro ⟨h1, h2⟩ i hi
      rcases Nat.lt_or_ge i n with h3 | h3
      · exact h1 i h3
      · obtain rfl : i = n := by omega
        exact h2
    · exact fun h => ⟨fun i hi => h i (by omega), h n (by omega)⟩
theorem allTo_false (f : Nat → Bool) (n i : Nat) (hi : i < n) (hf : f i = false) : allTo f n = false := by
  rw [Bool.eq_false_iff]
  intro h
  rw [(allTo_iff f n).1 h i hi] at hf
  cases hf

/-! ### which worlds may be -/
def liveB (W : PW) (i : Int) : Bool := decide (0 ≤ i ∧ i < W.L.length) && !(W.dead.getD i.toNat false)
def numB (v : PV) (lo hi : Int) : Bool := !v.obj && decide (lo ≤ v.n ∧ v.n ≤ hi)
def isClsB (t : PT) : Bool := decide (t.fmt = 1) && (decide (5 ≤ t.F.length) && (numB (vAt t.F 3) 0 60 && numB (vAt t.F 4) 1 3))
/-- a field that may be, of a world of n things -/
def fldB (n : Nat) (v : PV) : Bool := if v.obj then decide (0 ≤ v.n ∧ v.n < n) else fitsB v.n
def fldsB (n : Nat) (F : List PV) : Bool := allTo (fun j => fldB n (vAt F j)) F.length
def shapeB (n : Nat) (t : PT) : Bool :=
  if t.fmt = 3 then decide (t.F.length = 0) && decide (t.B.size ≤ 200)
  else if t.fmt = 1 ∨ t.fmt = 2 then decide (t.B.size = 0) && (decide (t.F.length ≤ 60) && fldsB n t.F)
  else false
def liveF (W : PW) (F : List PV) : Bool := allTo (fun j => !(vAt F j).obj || liveB W (vAt F j).n) F.length
def thingB (W : PW) (i : Nat) : Bool :=
  decide (0 ≤ (tAt W.L i).cls ∧ (tAt W.L i).cls < W.L.length) && (shapeB W.L.length (tAt W.L i) &&
    (if liveB W i then liveB W (tAt W.L i).cls && (isClsB (tAt W.L (tAt W.L i).cls.toNat) && liveF W (tAt W.L i).F) else decide (23 ≤ i)))
def prevH (L : List PT) : Nat → Int
  | 0 => 0
  | i + 1 => (tAt L i).hash
def oneB (W : PW) (i : Nat) : Bool := decide (prevH W.L i < (tAt W.L i).hash) && (decide ((tAt W.L i).hash ≤ 3000) && thingB W i)
def thingsB (W : PW) : Bool := allTo (oneB W) W.L.length && (decide (prevH W.L W.L.length ≤ W.last) && decide (W.last ≤ 3000))
def spec1B (W : PW) (i : Nat) : Bool :=
  if i ≤ 2 then decide ((tAt W.L i).cls = 3 + i) else if i ≤ 18 then decide ((tAt W.L i).cls = 10) else if i < 22 then decide ((tAt W.L i).fmt = 3) else decide ((tAt W.L i).fmt = 1)
def specB (W : PW) : Bool := allTo (spec1B W) 23
def thereB (W : PW) (i : Int) : Bool := !decide (i = 0) && liveB W i
def thereL (W : PW) (l : List Int) : Bool := allTo (fun j => thereB W (l.getD j 0)) l.length
def onceB (l : List Int) : Bool := allTo (fun j => !(l.take j).contains (l.getD j 0)) l.length
def wAt (l : List (Int × Int)) (i : Nat) : Int × Int := l.getD i (0, 0)
def waitB (W : PW) (l : List (Int × Int)) : Bool := allTo (fun j => thereB W (wAt l j).1 && thereB W (wAt l j).2) l.length
def sAt (l : List ByteArray) (i : Nat) : ByteArray := l.getD i ByteArray.empty
def snapsB (l : List ByteArray) : Bool := allTo (fun j => decide ((sAt l j).size ≤ 65536)) l.length
def regsB (W : PW) : Bool :=
  (decide (W.R.proc = 0) || thereB W W.R.proc) && ((decide (W.R.frame = 0) || thereB W W.R.frame) && (thereL W W.R.ready && (thereL W W.R.due && (onceB W.R.due && (waitB W W.R.wait &&
    (decide (W.R.ready.length ≤ 20 ∧ W.R.wait.length ≤ 20 ∧ W.R.due.length ≤ 3000 ∧ W.R.snaps.length ≤ 20 ∧ W.R.out.size ≤ 4096 ∧ W.R.inp.size ≤ 4096 ∧ 0 ≤ W.R.how ∧ W.R.how ≤ 4 ∧ 0 ≤ W.R.exit ∧ W.R.exit ≤ 255) && snapsB W.R.snaps))))))
def checkB (W : PW) : Bool := decide (23 ≤ W.L.length ∧ W.L.length ≤ 3000) && (decide (W.dead.length = 0 ∨ W.dead.length = W.L.length) && (thingsB W && (specB W && regsB W)))

/-! ### how they lie in memory -/
/-- a slice of n elements of sz cells each: element i's cell j is c i j -/
structure Row (w : World) (v : Value) (n sz : Nat) (c : Nat → Nat → Value) : Prop where
  ex : ∃ A cap, v = .slice A n cap ∧ n ≤ cap ∧ cap ≤ 9223372036854775807 ∧ ∀ i, i < n → ∃ b off, A = some ⟨b, off, none⟩ ∧ b < w.heap.size ∧ ∀ j, j < sz → w.cell? ⟨b, off + i * sz + j, none⟩ = some (c i j)
theorem Row.ext {w w' : World} {v : Value} {n sz : Nat} {c : Nat → Nat → Value} (h : Row w v n sz c) (x : Ext w w') : Row w' v n sz c := by
  obtain ⟨A, cap, e, h1, h2, h3⟩ := h.ex
  refine ⟨A, cap, e, h1, h2, fun i hi => ?_⟩
  obtain ⟨b, off, ea, hb, hc⟩ := h3 i hi
  exact ⟨b, off, ea, by have := x.below.size; omega, fun j hj => (x.below.cell (p := ⟨b, off + i * sz + j, none⟩) hb).trans (hc j hj)⟩
theorem Row.congr {w : World} {v : Value} {n sz : Nat} {c c' : Nat → Nat → Value} (h : Row w v n sz c) (e : ∀ i j, i < n → j < sz → c i j = c' i j) : Row w v n sz c' := by
  obtain ⟨A, cap, ea, h1, h2, h3⟩ := h.ex
  refine ⟨A, cap, ea, h1, h2, fun i hi => ?_⟩
  obtain ⟨b, off, eb, hb, hc⟩ := h3 i hi
  exact ⟨b, off, eb, hb, fun j hj => by rw [← e i j hi hj]; exact hc j hj⟩
def cV (v : PV) : Nat → Value
  | 0 => .bool v.obj
  | _ => .int .i64 v.n
def ValsAt (w : World) (v : Value) (F : List PV) : Prop := Row w v F.length 2 (fun i j => cV (vAt F i) j)
def IntsAt (w : World) (v : Value) (l : List Int) : Prop := Row w v l.length 1 (fun i _ => .int .i64 (l.getD i 0))
def BoolsAt (w : World) (v : Value) (l : List Bool) : Prop := Row w v l.length 1 (fun i _ => .bool (l.getD i false))
def StrsAt (w : World) (v : Value) (l : List ByteArray) : Prop := Row w v l.length 1 (fun i _ => .string (sAt l i))
def cW (x : Int × Int) : Nat → Value
  | 0 => .int .i64 x.1
  | _ => .int .i64 x.2
def WaitsAt (w : World) (v : Value) (l : List (Int × Int)) : Prop := Row w v l.length 2 (fun i j => cW (wAt l i) j)
/-- a thing's cells, vF its fields' slice -/
def cT (t : PT) (vF : Value) : Nat → Value
  | 0 => .int .i64 t.cls
  | 1 => .int .i64 t.fmt
  | 2 => .int .i64 t.hash
  | 3 => .bool t.fin
  | 4 => vF
  | _ => .string t.B
structure ThingsAt (w : World) (v : Value) (L : List PT) (fs : Nat → Value) : Prop where
  row : Row w v L.length 6 (fun i j => cT (tAt L i) (fs i) j)
  flds : ∀ i, i < L.length → ValsAt w (fs i) (tAt L i).F
/-- the values of a world's slices -/
structure WV where
  L : Value
  fs : Nat → Value
  dead : Value
  ready : Value
  wait : Value
  due : Value
  snaps : Value
def cellsW (W : PW) (x : WV) : Array Value := #[x.L, x.dead, .int .i64 W.last, .int .i64 W.R.proc, .int .i64 W.R.frame, x.ready, x.wait, x.due, .string W.R.out, .string W.R.inp, .int .i64 W.R.how, .int .i64 W.R.exit, x.snaps]
/-- numbers that a machine holds -/
def in64 (n : Int) : Prop := -9223372036854775808 ≤ n ∧ n ≤ 9223372036854775807
structure Nums (W : PW) : Prop where
  last : in64 W.last
  proc : in64 W.R.proc
  frame : in64 W.R.frame
  how : in64 W.R.how
  exit : in64 W.R.exit
  out : W.R.out.size ≤ maxLen
  inp : W.R.inp.size ≤ maxLen
  ready : ∀ x ∈ W.R.ready, in64 x
  due : ∀ x ∈ W.R.due, in64 x
  wait : ∀ x ∈ W.R.wait, in64 x.1 ∧ in64 x.2
  snaps : ∀ s ∈ W.R.snaps, s.size ≤ maxLen
  things : ∀ t ∈ W.L, in64 t.cls ∧ in64 t.fmt ∧ in64 t.hash ∧ t.B.size ≤ maxLen ∧ ∀ v ∈ t.F, in64 v.n
/-- a world lies in memory -/
structure WorldAt (w : World) (x : WV) (W : PW) : Prop where
  L : ThingsAt w x.L W.L x.fs
  dead : BoolsAt w x.dead W.dead
  ready : IntsAt w x.ready W.R.ready
  wait : WaitsAt w x.wait W.R.wait
  due : IntsAt w x.due W.R.due
  snaps : StrsAt w x.snaps W.R.snaps
  nums : Nums W
section
variable {w w' : World}
theorem ValsAt.ext {v : Value} {F : List PV} (h : ValsAt w v F) (x : Ext w w') : ValsAt w' v F := Row.ext h x
theorem IntsAt.ext {v : Value} {l : List Int} (h : IntsAt w v l) (x : Ext w w') : IntsAt w' v l := Row.ext h x
theorem BoolsAt.ext {v : Value} {l : List Bool} (h : BoolsAt w v l) (x : Ext w w') : BoolsAt w' v l := Row.ext h x
theorem StrsAt.ext {v : Value} {l : List ByteArray} (h : StrsAt w v l) (x : Ext w w') : StrsAt w' v l := Row.ext h x
theorem WaitsAt.ext {v : Value} {l : List (Int × Int)} (h : WaitsAt w v l) (x : Ext w w') : WaitsAt w' v l := Row.ext h x
theorem ThingsAt.ext {v : Value} {L : List PT} {fs : Nat → Value} (h : ThingsAt w v L fs) (x : Ext w w') : ThingsAt w' v L fs := ⟨h.row.ext x, fun i hi => (h.flds i hi).ext x⟩
theorem WorldAt.ext {x : WV} {W : PW} (h : WorldAt w x W) (e : Ext w w') : WorldAt w' x W := ⟨h.L.ext e, h.dead.ext e, h.ready.ext e, h.wait.ext e, h.due.ext e, h.snaps.ext e, h.nums⟩
end
end Go.Proofs.YtjpalcejmloocaaGreat.World
namespace Go.Proofs.YtjpalcejmloocaaGreat.World
open Go.RowKit Go.Proofs.YtjpalcejmloocaaGreat.Plain
set_option linter.unusedVariables false

structure MS where
  L : List PT
  dead : List Bool
  col : List Int
  last : Int
  R : PR
  phase : Int
  stk : List Int
  most : Nat
  over : Bool
  lst : List Int
  short : Bool
namespace MS
def has (S : MS) (i : Int) : Bool := decide (0 ≤ i ∧ i < S.L.length) && !(S.dead.getD i.toNat false)
def t (S : MS) (i : Int) : PT := tAt S.L i.toNat
def fmt (S : MS) (i : Int) : Int := if S.has i then (S.t i).fmt else 0
def size (S : MS) (i : Int) : Int := if S.has i then ((S.t i).F.length : Int) + ((S.t i).B.size : Int) else -1
def cls (S : MS) (i : Int) : Int := if S.has i then (S.t i).cls else 0
def hash (S : MS) (i : Int) : Int := if S.has i then (S.t i).hash else -1
def field (S : MS) (i j : Int) : PV := vAt (S.t i).F j.toNat
def isField (S : MS) (i j : Int) : Bool := S.has i && (!decide (S.fmt i = 3) && decide (0 ≤ j ∧ j < S.size i))
def get (S : MS) (i j : Int) : PV := if S.isField i j then S.field i j else dV
def may (S : MS) (v : PV) : Bool := if v.obj then S.has v.n else fitsB v.n
def sizeOK (v : PV) : Bool := !v.obj && decide (0 ≤ v.n ∧ v.n ≤ 60)
def fmtOK (v : PV) : Bool := !v.obj && decide (1 ≤ v.n ∧ v.n ≤ 3)
def isClass (S : MS) (i : Int) : Bool := S.has i && (decide (S.fmt i = 1) && (decide (5 ≤ S.size i) && (sizeOK (S.field i 3) && fmtOK (S.field i 4))))
def setT (S : MS) (i : Int) (x : PT) : MS := { S with L := S.L.set i.toNat x }
def put (S : MS) (i j : Int) (v : PV) : MS := S.setT i { S.t i with F := (S.t i).F.set j.toNat v }
def setOK (S : MS) (i j : Int) (v : PV) : Bool := S.isField i j && (S.may v && !(((decide (j = 3) && !sizeOK v) || (decide (j = 4) && !fmtOK v)) && S.isClass i))
def set (S : MS) (i j : Int) (v : PV) : MS := if S.setOK i j v then S.put i j v else S
def isByte (S : MS) (i j : Int) : Bool := S.has i && (decide (S.fmt i = 3) && decide (0 ≤ j ∧ j < S.size i))
def byte (S : MS) (i j : Int) : Int := if S.isByte i j then (((S.t i).B.data[j.toNat]?.getD 0).toNat : Int) else -1
def add (S : MS) (x : PT) : MS := { S with L := S.L ++ [x], dead := S.dead ++ [false], col := S.col ++ [0], last := S.last + 1 }
end MS
namespace MS
theorem tAt_app (L : List PT) (x : PT) (j : Nat) : tAt (L ++ [x]) j = if j < L.length then tAt L j else if j = L.length then x else dT := by
  unfold tAt
  rw [List.getD_eq_getElem?_getD, List.getD_eq_getElem?_getD]
  by_cases h : j < L.length
  · rw [if_pos h, List.getElem?_append_left h]
  · rw [if_neg h, List.getElem?_append_right (by omega)]
    by_cases h2 : j = L.length
    · subst h2; simp
    · rw [if_neg h2, List.getElem?_eq_none (by simp; omega)]; rfl
/-! ### a field turned -/
section
variable {S : MS} {i j : Int} {v : PV}
end
/-! ### a thing more -/
section
variable {S : MS} {x : PT}
variable {k : Int}
end
end MS
end Go.Proofs.YtjpalcejmloocaaGreat.World
namespace Go.Proofs.YtjpalcejmloocaaGreat.World
open Go.RowKit Go.Proofs.YtjpalcejmloocaaGreat.Plain
set_option linter.unusedVariables false

def num (n : Int) : PV := ⟨false, n⟩
def objV (n : Int) : PV := ⟨true, n⟩
def sizes16 : List Int := [0, 0, 0, 0, 0, 0, 0, 5, 0, 22, 4, 2, 1, 0, 2, 2]
def fmts16 : List Int := [1, 1, 1, 1, 1, 3, 3, 1, 1, 1, 1, 1, 1, 2, 1, 1]
def txtLost : ByteArray := ⟨#[108, 111, 115, 116]⟩
def txtBool : ByteArray := ⟨#[98, 111, 111, 108]⟩
def txtBack : ByteArray := ⟨#[98, 97, 99, 107]⟩
def names3 : List ByteArray := [txtLost, txtBool, txtBack]
def firstT (i : Nat) : PT :=
  if i < 3 then ⟨3 + i, 1, i + 1, false, [], ByteArray.empty⟩
  else if i < 19 then ⟨10, 1, i + 1, false, [objV 0, objV 0, objV 0, num (sizes16.getD (i - 3) 0), num (fmts16.getD (i - 3) 0)], ByteArray.empty⟩
  else if i < 22 then ⟨9, 3, i + 1, false, [], names3.getD (i - 19) ByteArray.empty⟩
  else ⟨15, 1, i + 1, false, [num 0], ByteArray.empty⟩
def firstL (n : Nat) : List PT := (List.range n).map firstT
def regs0 : PR := ⟨0, 0, [], [], [], ByteArray.empty, ByteArray.empty, 0, 0, []⟩
def firstW : PW := ⟨firstL 23, [], 23, regs0⟩
theorem firstL_succ (n : Nat) : firstL (n + 1) = firstL n ++ [firstT n] := by unfold firstL; rw [List.range_succ, List.map_append]; rfl
theorem firstL_len (n : Nat) : (firstL n).length = n := by unfold firstL; simp
theorem first_check : checkB firstW = true := by decide +kernel

/-! ### a thing more -/
def PW.add (W : PW) (c f : Int) (F : List PV) (B : ByteArray) : PW := { W with L := W.L ++ [⟨c, f, W.last + 1, false, F, B⟩], last := W.last + 1 }
end Go.Proofs.YtjpalcejmloocaaGreat.World
namespace Go.Proofs.YtjpalcejmloocaaGreat.Heap
open Go.RowKit Go.Proofs.YtjpalcejmloocaaGreat.Plain Go.Proofs.YtjpalcejmloocaaGreat.Free
open Go.Proofs.YtjpalcejmloocaaGreat.World (firstT)
set_option linter.unusedVariables false
def tW (i : Nat) : Nat := if (firstT i).fmt = 3 then ((firstT i).B.size + 3) / 4 else (firstT i).F.length
def tO : Nat → Nat
  | 0 => 0
  | i + 1 => tO i + 3 + tW i
def tX (i : Nat) : Int := if (firstT i).fmt = 3 then 0 else intW 0
def fS : Nat → List Int
  | 0 => List.replicate 1000 0
  | i + 1 => made (fS i) (tO i) (tW i) (firstT i).fmt 0 0 (firstT i).hash (tX i)
def fB : Nat → List Bool
  | 0 => List.replicate 1001 false
  | i + 1 => (fB i).set (tO i + 1) true
theorem tO_sep : ∀ i, i < 23 → ∀ j, j < 23 → ¬ (tO i < tO j ∧ tO j ≤ tO i + 2 + tW i) := by decide +kernel
theorem tO_up : ∀ i, i < 23 → tO i + 3 + tW i ≤ 153 := by decide +kernel
structure Hd1 (S : List Int) : Prop where
  len : S.length = 1000
  hd : ∀ j, j < 23 → gotF (S.getD (tO j) 0) = (firstT j).fmt ∧ gotS (S.getD (tO j) 0) = tW j ∧ gotO (S.getD (tO j) 0) = 0
theorem fS_len : ∀ i, (fS i).length = 1000
  | 0 => List.length_replicate ..
  | i + 1 => by
    unfold fS made
    rw [fill_len, List.length_set, List.length_set, List.length_set]
    exact fS_len i
set_option maxRecDepth 100000 in
theorem hd_start : Hd1 (fS 23) := ⟨fS_len 23, by decide +kernel⟩
theorem getD_set (S : List Int) (q k : Nat) (x : Int) (h : k < S.length) : (S.set k x).getD q 0 = if q = k then x else S.getD q 0 := by
  rw [List.getD_eq_getElem?_getD, List.getD_eq_getElem?_getD, List.getElem?_set]
  by_cases e : k = q
  · subst e; simp [h]
  · simp [e, Ne.symm e]
theorem Hd1.body {S : List Int} (h : Hd1 S) {i d : Nat} (hi : i < 23) (h1 : 1 ≤ d) (h2 : d ≤ 2 + tW i) (x : Int) : Hd1 (S.set (tO i + d) x) := by
  refine ⟨by rw [List.length_set]; exact h.len, fun j hj => ?_⟩
  have := tO_sep i hi j hj
  have := tO_up i hi
  rw [getD_set _ _ _ _ (by rw [h.len]; omega), if_neg (by omega)]
  exact h.hd j hj
theorem Hd1.mark {S : List Int} (h : Hd1 S) {i : Nat} (hi : i < 23) {x : Int} (hx : S.getD (tO i) 0 = x) (c : Int) (fi : Bool) : Hd1 (S.set (tO i) (putN (gotS x) (gotF x) (gotO x) c fi (gotL x))) := by
  refine ⟨by rw [List.length_set]; exact h.len, fun j hj => ?_⟩
  have := tO_up i hi
  rw [getD_set _ _ _ _ (by rw [h.len]; omega)]
  by_cases e : tO j = tO i
  · rw [if_pos e]
    have q := h.hd j hj
    rw [e, hx] at q
    have a1 := got_s (s := gotS x) (f := gotF x) (o := gotO x) (c := c) (fi := fi) (li := gotL x) (m := 0)
    have a2 := got_f (s := gotS x) (f := gotF x) (o := gotO x) (c := c) (fi := fi) (li := gotL x) (m := 0)
    have a3 := got_o (s := gotS x) (f := gotF x) (o := gotO x) (c := c) (fi := fi) (li := gotL x) (m := 0)
    rw [Int.zero_mul, Int.add_zero] at a1 a2 a3
    have b := got_bds x
    rw [a1, a2, a3]
    omega
  · rw [if_neg e]
    exact h.hd j hj
theorem fB_has : ∀ i, i < 23 → hasB (fB 23) ((tO i : Int) + 1) = true := by decide +kernel
theorem Hd1.getL {S : List Int} (h : Hd1 S) {i : Nat} (hi : i < 23) : Store.getL S ((tO i : Int) + 1 - 1) = S.getD (tO i) 0 := by
  have := tO_up i hi
  rw [show (tO i : Int) + 1 - 1 = (tO i : Int) by omega]
  unfold Store.getL
  rw [if_pos (by rw [h.len]; omega)]
  simp
theorem Hd1.fmt {S : List Int} (h : Hd1 S) {i : Nat} (hi : i < 23) : fmtI S (fB 23) ((tO i : Int) + 1) = (firstT i).fmt := by
  unfold fmtI
  rw [fB_has i hi, if_pos rfl, h.getL hi]
  exact (h.hd i hi).1
theorem Hd1.in_ {S : List Int} (h : Hd1 S) {i : Nat} (hi : i < 23) (hf : (firstT i).fmt ≠ 3) {k : Nat} (hk : k < tW i) : inB S (fB 23) ((tO i : Int) + 1) k false = true := by
  have q := h.hd i hi
  unfold inB
  rw [fB_has i hi, h.fmt hi]
  have hs : sizeI S (fB 23) ((tO i : Int) + 1) = tW i := by
    unfold sizeI
    rw [fB_has i hi, if_pos rfl, h.getL hi, if_neg (by rw [q.1]; exact hf)]
    exact q.2.1
  rw [hs]
  have e : ((firstT i).fmt == 3) = false := beq_eq_false_iff_ne.2 hf
  rw [e]
  simp
  omega
theorem Hd1.inb {S : List Int} (h : Hd1 S) {i : Nat} (hi : i < 23) (hf : (firstT i).fmt = 3) {k : Nat} (hk : k < 4 * tW i) : inB S (fB 23) ((tO i : Int) + 1) k true = true := by
  have q := h.hd i hi
  unfold inB
  rw [fB_has i hi, h.fmt hi]
  have hs : sizeI S (fB 23) ((tO i : Int) + 1) = tW i * 4 := by
    unfold sizeI
    rw [fB_has i hi, if_pos rfl, h.getL hi, if_pos (by rw [q.1]; exact hf), q.2.1, q.2.2]
    omega
  rw [hs, hf]
  simp
  omega
theorem bst_one {o r n : Int} (h : n ≤ r) : bst [(o, r)] n [(o, r)].length = some 0 := by
  show bst [(o, r)] n 1 = _
  unfold bst bst
  rw [if_pos (by exact h)]
theorem take_one {o r n : Int} (h : r ≠ n) : takeAt [(o, r)] 0 n = [(o + n, r - n)] := by
  unfold takeAt
  rw [if_neg (by exact h)]; rfl
def fL (i : Nat) : List Run := [((tO i : Int), 1000 - (tO i : Int))]
theorem fL_next {i : Nat} (hi : i < 23) : bst (fL i) (3 + (tW i : Int)) (fL i).length = some 0 ∧ takeAt (fL i) 0 (3 + (tW i : Int)) = fL (i + 1) := by
  have := tO_up i hi
  refine ⟨bst_one (by omega), ?_⟩
  unfold fL
  rw [take_one (by omega)]
  have e : tO (i + 1) = tO i + 3 + tW i := rfl
  rw [e]
  congr 2 <;> omega
/-- where the things lie -/
def atL (n : Nat) : List Int := (List.range n).map (fun i => (tO i : Int) + 1)
theorem atL_len (n : Nat) : (atL n).length = n := by unfold atL; simp
theorem atL_at {n i : Nat} (h : i < n) : (atL n).getD i 0 = (tO i : Int) + 1 := by
  unfold atL
  rw [List.getD_eq_getElem?_getD, List.getElem?_map, List.getElem?_range h]; rfl
theorem atL_succ (n : Nat) : atL (n + 1) = atL n ++ [(tO n : Int) + 1] := by unfold atL; rw [List.range_succ, List.map_append]; rfl
end Go.Proofs.YtjpalcejmloocaaGreat.Heap
