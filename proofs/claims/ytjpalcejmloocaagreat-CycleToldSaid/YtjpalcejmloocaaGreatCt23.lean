/-
  Cyc0, as one text (a claim has at most 60 files).
-/
import Derived.Test.YtjpalcejmloocaaGreatCt13
import Derived.Test.YtjpalcejmloocaaGreatCt22
namespace Go.Proofs.YtjpalcejmloocaaGreat.World
open Go.RowKit Go.Proofs.YtjpalcejmloocaaGreat.Plain
set_option linter.unusedVariables false
namespace MS
def colour (S : MS) (i : Int) : Int := if S.has i then S.col.getD i.toNat 0 else 0
def final (S : MS) (i : Int) : Bool := S.has i && (S.t i).fin
def paint (S : MS) (i c : Int) : MS := { S with col := S.col.set i.toNat c }
def setFin (S : MS) (i : Int) (b : Bool) : MS := S.setT i { S.t i with fin := b }
def kill (S : MS) (i : Int) : MS := { S with dead := S.dead.set i.toNat true }
/-- the first k places that are not dead -/
def placesTo (S : MS) : Nat → List Int
  | 0 => []
  | k + 1 => if S.dead.getD k false then S.placesTo k else S.placesTo k ++ [(k : Int)]
def places (S : MS) : List Int := S.placesTo S.L.length
def pushG (S : MS) (v : Int) : MS := if S.stk.length < S.most then { S with stk := S.stk ++ [v] } else { S with over := true }
def shade (S : MS) (i : Int) : MS := if S.has i && decide (S.colour i = 0) then (S.paint i 1).pushG i else S
def shades (S : MS) (l : List Int) : MS := l.foldl shade S
def roots (S : MS) : MS := (S.shades (upTo 23)).shades (listOf S.R)
/-- what its first k fields lead to is shaded -/
def scanN (S : MS) (i : Int) : Nat → MS
  | 0 => S
  | k + 1 => if (S.field i k).obj then (S.scanN i k).shade (S.field i k).n else S.scanN i k
def scan1 (S : MS) (i : Int) : MS := if S.fmt i = 1 then S.scanN i (S.size i).toNat else S
def scan (S : MS) (i : Int) : MS := ((S.shade (S.cls i)).scan1 i).paint i 2
def scans (S : MS) (l : List Int) : MS := l.foldl scan S
def greys (S : MS) : List Int := S.places.filter (fun i => decide (S.colour i = 1))
def popG (S : MS) : MS := { S with stk := S.stk.dropLast }
def topG (S : MS) : Int := S.stk.getLast?.getD 0
def scanG (S : MS) (i : Int) : MS := if S.has i && decide (S.colour i = 1) then S.scan i else S
/-- all scanned, until nothing is Grey (n: at most so many rounds) -/
def allO : Nat → MS → Option MS
  | 0, _ => none
  | n + 1, S => if S.stk = [] then (if S.greys = [] then some { S with over := false } else allO n (S.scans S.greys)) else allO n (S.popG.scanG S.topG)
/-- a thing's first k fields lose what is White -/
def weakN (S : MS) (i : Int) : Nat → MS
  | 0 => S
  | k + 1 => if ((S.weakN i k).field i k).obj && decide ((S.weakN i k).colour ((S.weakN i k).field i k).n = 0) then (S.weakN i k).put i k nilV else S.weakN i k
def weakT (S : MS) (i : Int) : MS := if S.fmt i ≠ 2 ∨ S.colour i = 0 then S else S.weakN i (S.size i).toNat
def weaken (S : MS) : MS := S.places.foldl weakT S
def dueT (p : MS × Int) (i : Int) : MS × Int := if decide (p.1.colour i = 0) && p.1.final i then ({ p.1.setFin i false with R := { p.1.R with due := p.1.R.due ++ [i] } }, p.2 + 1) else p
def killT (S : MS) (i : Int) : MS := if S.colour i = 0 then S.kill i else S
def endA (S : MS) : MS × Int := ({ S with lst := S.places }).lst.foldl dueT ({ S with lst := S.places }, 0)
def endB (p : MS × Int) : MS := p.1.shades (p.1.R.due.drop (p.1.R.due.length - p.2.toNat))
def endC (S : MS) : MS := { S.lst.foldl killT S with phase := 2 }
def lstB (S : MS) : Bool := S.lst.all (fun i => decide (0 ≤ i ∧ i < S.L.length))
/-- (registers that are not many; a first thing that is there; a list of places) -/
def smallB (S : MS) : Bool := decide (2 + S.R.ready.length + 2 * S.R.wait.length + S.R.due.length < 10000)
def endO (n : Nat) (S : MS) : Option (MS × Int) :=
  if S.smallB then
    match allO n S.roots with
    | none => none
    | some S1 =>
      if S1.has 0 && S1.smallB then
        match allO n (endB (endA S1.weaken)) with
        | none => none
        | some S5 => if S5.has 0 && S5.weaken.lstB then some (endC S5.weaken, (endA S1.weaken).2) else none
      else none
  else none
def pushs (S : MS) : List Int → MS
  | [] => S
  | i :: l => if S.stk.length < S.most then ({ S with stk := S.stk ++ [i] }).pushs l else { S with over := true }
def sweepO (S : MS) : Option MS :=
  match S.lst with
  | [] => some { S with phase := 0 }
  | i :: l => if decide (0 ≤ i ∧ i < S.L.length) then some (if l = [] then { S.paint i 0 with lst := l, phase := 0 } else { S.paint i 0 with lst := l }) else none
/-- one unit of a collection -/
def unitO (n : Nat) (S : MS) : Option (MS × Int) :=
  if S.phase = 0 then (if S.smallB then some ({ S with phase := 1 }.roots, 0) else none)
  else if S.phase = 2 then S.sweepO.map (·, 0)
  else if S.stk = [] then (if S.over then some ({ S with over := false }.pushs { S with over := false }.greys, 0) else endO n S)
  else some (S.popG.scanG S.topG, 0)
/-- units until a collection has ended -/
def wholeO (n : Nat) : Nat → MS → Option (MS × Int)
  | 0, _ => none
  | k + 1, S => match unitO n S with
    | none => none
    | some (S1, _) => if S1.phase = 0 then some (S1, 1) else (wholeO n k S1).map (fun p => (p.1, p.2 + 1))
end MS
/-! ### what stays -/
theorem MS.Wf.same {S S' : MS} (w : S.Wf) (h1 : S'.L = S.L) (h2 : S'.dead.length = S.dead.length) (h3 : S'.col.length = S.col.length) (h4 : S'.last = S.last) : S'.Wf :=
  ⟨by rw [h2, h1]; exact w.dead, by rw [h3, h1]; exact w.col, by rw [h1]; exact w.lo, by rw [h1, h4]; exact w.len, by rw [h4]; exact w.last, by rw [h1]; exact w.fmt, by rw [h1]; exact w.noB, by rw [h1]; exact w.noF, by rw [h1]; exact w.nF, by rw [h1]; exact w.nB, by rw [h1]; exact w.cls, by rw [h1]; exact w.hash, by rw [h1]; exact w.fld⟩
namespace MS
variable {S S' : MS}
theorem paint_wf (w : S.Wf) (i c : Int) : (S.paint i c).Wf := w.same rfl rfl (List.length_set ..) rfl
theorem kill_wf (w : S.Wf) (i : Int) : (S.kill i).Wf := w.same rfl (List.length_set ..) rfl rfl
theorem setFin_at (i : Int) (b : Bool) (k : Nat) (hi : i.toNat < S.L.length) : tAt (S.setFin i b).L k = if k = i.toNat then { S.t i with fin := b } else tAt S.L k := tAt_set _ _ _ _ hi
theorem setFin_len (i : Int) (b : Bool) : (S.setFin i b).L.length = S.L.length := List.length_set ..
theorem setFin_wf (w : S.Wf) {i : Int} (h : 0 ≤ i ∧ i < S.L.length) (b : Bool) : (S.setFin i b).Wf := by
  have hi : i.toNat < S.L.length := by omega
  have A : ∀ k, (tAt (S.setFin i b).L k).fmt = (tAt S.L k).fmt ∧ (tAt (S.setFin i b).L k).F = (tAt S.L k).F ∧ (tAt (S.setFin i b).L k).B = (tAt S.L k).B ∧ (tAt (S.setFin i b).L k).cls = (tAt S.L k).cls ∧ (tAt (S.setFin i b).L k).hash = (tAt S.L k).hash := fun k => by
    rw [setFin_at i b k hi]
    by_cases e : k = i.toNat
    · subst e; rw [if_pos rfl]; exact ⟨rfl, rfl, rfl, rfl, rfl⟩
    · rw [if_neg e]; exact ⟨rfl, rfl, rfl, rfl, rfl⟩
  have l := setFin_len (S := S) i b
  refine ⟨by rw [l]; exact w.dead, by rw [l]; exact w.col, by rw [l]; exact w.lo, by rw [l]; exact w.len, w.last, fun k hk => ?_, fun k hk hf => ?_, fun k hk hf => ?_, fun k hk => ?_, fun k hk => ?_, fun k hk => ?_, fun k hk => ?_, fun k j hk hj => ?_⟩
  all_goals rw [l] at *
  · rw [(A k).1]; exact w.fmt k hk
  · rw [(A k).2.2.1]; rw [(A k).1] at hf; exact w.noB k hk hf
  · rw [(A k).2.1]; rw [(A k).1] at hf; exact w.noF k hk hf
  · rw [(A k).2.1]; exact w.nF k hk
  · rw [(A k).2.2.1]; exact w.nB k hk
  · rw [(A k).2.2.2.1]; exact w.cls k hk
  · rw [(A k).2.2.2.2]; exact w.hash k hk
  · rw [(A k).2.1] at hj ⊢; exact w.fld k j hk hj
/-- things and dead ones are as they were -/
structure Alike (S S' : MS) : Prop where
  L : S'.L = S.L
  dead : S'.dead = S.dead
  R : S'.R = S.R
  last : S'.last = S.last
  phase : S'.phase = S.phase
  lst : S'.lst = S.lst
  most : S'.most = S.most
theorem Alike.refl (S : MS) : Alike S S := ⟨rfl, rfl, rfl, rfl, rfl, rfl, rfl⟩
theorem Alike.trans {A B C : MS} (h : Alike A B) (k : Alike B C) : Alike A C := ⟨k.L.trans h.L, k.dead.trans h.dead, k.R.trans h.R, k.last.trans h.last, k.phase.trans h.phase, k.lst.trans h.lst, k.most.trans h.most⟩
theorem Alike.has (h : Alike S S') (i : Int) : S'.has i = S.has i := by unfold MS.has; rw [h.L, h.dead]
theorem Alike.fmt (h : Alike S S') (i : Int) : S'.fmt i = S.fmt i := by unfold MS.fmt MS.t; rw [h.has, h.L]
theorem Alike.size (h : Alike S S') (i : Int) : S'.size i = S.size i := by unfold MS.size MS.t; rw [h.has, h.L]
theorem Alike.field (h : Alike S S') (i j : Int) : S'.field i j = S.field i j := by unfold MS.field MS.t; rw [h.L]
theorem alike_paint (S : MS) (i c : Int) : Alike S (S.paint i c) := ⟨rfl, rfl, rfl, rfl, rfl, rfl, rfl⟩
theorem alike_push (S : MS) (i : Int) : Alike S (S.pushG i) := by unfold pushG; split <;> exact ⟨rfl, rfl, rfl, rfl, rfl, rfl, rfl⟩
theorem alike_shade (S : MS) (i : Int) : Alike S (S.shade i) := by
  unfold shade; split
  · exact (alike_paint S i 1).trans (alike_push _ i)
  · exact .refl S
theorem alike_shades (l : List Int) : ∀ S : MS, Alike S (S.shades l) := by
  induction l with
  | nil => exact fun S => .refl S
  | cons i l ih => exact fun S => (alike_shade S i).trans (ih _)
theorem alike_scanN (S : MS) (i : Int) : ∀ k, Alike S (S.scanN i k)
  | 0 => .refl S
  | k + 1 => by
    unfold scanN; split
    · exact (alike_scanN S i k).trans (alike_shade _ _)
    · exact alike_scanN S i k
theorem alike_scan (S : MS) (i : Int) : Alike S (S.scan i) := by
  unfold scan scan1
  refine (alike_shade S (S.cls i)).trans (Alike.trans (B := if (S.shade (S.cls i)).fmt i = 1 then (S.shade (S.cls i)).scanN i ((S.shade (S.cls i)).size i).toNat else S.shade (S.cls i)) ?_ (alike_paint _ i 2))
  split
  · exact alike_scanN _ i _
  · exact .refl _
theorem alike_scans (l : List Int) : ∀ S : MS, Alike S (S.scans l) := by
  induction l with
  | nil => exact fun S => .refl S
  | cons i l ih => exact fun S => (alike_scan S i).trans (ih _)
theorem shades_snoc (S : MS) (l : List Int) (i : Int) : S.shades (l ++ [i]) = (S.shades l).shade i := by unfold shades; rw [List.foldl_append]; rfl
theorem scans_snoc (S : MS) (l : List Int) (i : Int) : S.scans (l ++ [i]) = (S.scans l).scan i := by unfold scans; rw [List.foldl_append]; rfl
theorem placesTo_mem (S : MS) : ∀ k i, i ∈ S.placesTo k → ∃ j : Nat, i = j ∧ j < k ∧ S.dead.getD j false = false
  | 0, i, h => by cases h
  | k + 1, i, h => by
    unfold placesTo at h
    cases hd : S.dead.getD k false with
    | true =>
      rw [hd, if_pos rfl] at h
      obtain ⟨j, e, hj, hn⟩ := placesTo_mem S k i h
      exact ⟨j, e, by omega, hn⟩
    | false =>
      rw [hd, if_neg (by decide), List.mem_append] at h
      rcases h with h | h
      · obtain ⟨j, e, hj, hn⟩ := placesTo_mem S k i h
        exact ⟨j, e, by omega, hn⟩
      · exact ⟨k, List.mem_singleton.1 h, by omega, hd⟩
theorem placesTo_len (S : MS) : ∀ k, (S.placesTo k).length ≤ k
  | 0 => Nat.le_refl _
  | k + 1 => by
    have := placesTo_len S k
    unfold placesTo
    split
    · omega
    · rw [List.length_append]; show _ + 1 ≤ _; omega
theorem places_has {i : Int} (h : i ∈ S.places) : S.has i = true := by
  obtain ⟨j, rfl, hj, hd⟩ := placesTo_mem S _ i h
  unfold has
  rw [decide_eq_true ⟨by omega, by omega⟩, Int.toNat_natCast, hd]; rfl
theorem greys_has {i : Int} (h : i ∈ S.greys) : S.has i = true := places_has (List.mem_filter.1 h).1
end MS
end Go.Proofs.YtjpalcejmloocaaGreat.World
