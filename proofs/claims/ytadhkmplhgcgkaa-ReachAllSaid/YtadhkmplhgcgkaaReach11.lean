/-
  reach.Canon, plain: what is left of a world, its places anew.
-/
import Derived.Test.YtadhkmplhgcgkaaReach10
namespace Go.Proofs.Ytadhkmplhgcgkaa.World
open Go.RowKit Go.Proofs.Ytadhkmplhgcgkaa.Plain
set_option linter.unusedVariables false
/-- how many are kept ahead of a place -/
def rankL (l : List Bool) (i : Nat) : Nat := (l.take i).countP (fun b => b)
theorem rankL_0 (l : List Bool) : rankL l 0 = 0 := rfl
theorem rankL_succ (l : List Bool) (i : Nat) (hi : i < l.length) : rankL l (i + 1) = rankL l i + (if sB l i = true then 1 else 0) := by
  unfold rankL sB
  rw [List.take_succ_eq_append_getElem hi, List.countP_append, List.getD_eq_getElem?_getD, List.getElem?_eq_getElem hi]
  congr 1
  show List.countP _ [l[i]] = if l[i] = true then 1 else 0
  rw [List.countP_singleton]
theorem rankL_le (l : List Bool) (i : Nat) : rankL l i ≤ i := by
  unfold rankL
  have := List.countP_le_length (p := fun b : Bool => b) (l := l.take i)
  rw [List.length_take] at this
  omega
/-- the places anew, laid up to i -/
def atK (l : List Bool) (i : Nat) : List Int := (List.range l.length).map (fun j => if j < i ∧ sB l j = true then (rankL l j : Int) else 0)
def atL (l : List Bool) : List Int := atK l l.length
theorem atK_len (l : List Bool) (i : Nat) : (atK l i).length = l.length := by unfold atK; simp
theorem atK_0 (l : List Bool) : atK l 0 = List.replicate l.length 0 := by
  unfold atK
  apply List.ext_getElem?
  intro q
  rw [List.getElem?_map, List.getElem?_replicate]
  by_cases h : q < l.length
  · rw [List.getElem?_range h, if_pos h]
    show some (if q < 0 ∧ sB l q = true then (rankL l q : Int) else 0) = some 0
    rw [if_neg (fun c => by omega)]
  · rw [List.getElem?_eq_none (by simpa using h), if_neg h]; rfl
theorem atK_yes (l : List Bool) (i : Nat) (hi : i < l.length) (hs : sB l i = true) : (atK l i).set i (rankL l i : Int) = atK l (i + 1) := by
  apply List.ext_getElem?
  intro q
  rw [List.getElem?_set, atK_len]
  unfold atK
  by_cases e : i = q
  · subst e
    rw [if_pos rfl, if_pos hi, List.getElem?_map, List.getElem?_range hi]
    show _ = some (if i < i + 1 ∧ sB l i = true then (rankL l i : Int) else 0)
    rw [if_pos ⟨by omega, hs⟩]
  · rw [if_neg e, List.getElem?_map, List.getElem?_map]
    by_cases h : q < l.length
    · rw [List.getElem?_range h]
      show some (if q < i ∧ sB l q = true then (rankL l q : Int) else 0) = some (if q < i + 1 ∧ sB l q = true then (rankL l q : Int) else 0)
      by_cases h2 : q < i
      · simp only [h2, show q < i + 1 by omega, true_and]
      · rw [if_neg (fun c => h2 c.1), if_neg (fun c => by omega)]
    · rw [List.getElem?_eq_none (by simpa using h)]; rfl
theorem atK_no (l : List Bool) (i : Nat) (hi : i < l.length) (hs : sB l i = false) : atK l i = atK l (i + 1) := by
  unfold atK
  refine List.map_congr_left fun q hq => ?_
  by_cases e : i = q
  · subst e; rw [if_neg (fun c => by omega), if_neg (fun c => by rw [hs] at c; cases c.2)]
  · by_cases h2 : q < i
    · simp only [h2, show q < i + 1 by omega, true_and]
    · rw [if_neg (fun c => h2 c.1), if_neg (fun c => by omega)]
/-- a value, a thing told anew -/
def canV (a : List Int) (v : PV) : PV := if v.obj = true then ⟨true, fA a v.n⟩ else v
def canT (a : List Int) (t : PT) : PT := { t with cls := fA a t.cls, F := t.F.map (canV a) }
def canK (W : PW) (l : List Bool) (i : Nat) : List PT := ((List.range i).filter (fun j => sB l j)).map (fun j => canT (atL l) (tAt W.L j))
theorem canK_succ (W : PW) (l : List Bool) (i : Nat) : canK W l (i + 1) = canK W l i ++ (if sB l i = true then [canT (atL l) (tAt W.L i)] else []) := by
  unfold canK
  rw [List.range_succ, List.filter_append, List.map_append]
  congr 1
  by_cases h : sB l i = true
  · rw [if_pos h, List.filter_cons_of_pos h]; rfl
  · rw [if_neg h, List.filter_cons_of_neg h]; rfl
theorem canK_len (W : PW) (l : List Bool) (i : Nat) : (canK W l i).length ≤ i := by
  unfold canK
  rw [List.length_map]
  have := List.length_filter_le (fun j => sB l j) (List.range i)
  rw [List.length_range] at this
  exact this
/-- a world with what can be come to alone -/
def canonW (W : PW) (l : List Bool) : PW := ⟨canK W l W.L.length, [], W.last, toldR (fA (atL l)) W.R⟩
end Go.Proofs.Ytadhkmplhgcgkaa.World
