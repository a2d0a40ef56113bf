/-
  ToldPlain, as one text (a claim has at most 60 files).
-/
import Derived.Test.YtjpalcejmloocaaGreatCt42
import Derived.Test.YtjpalcejmloocaaGreatCt43
namespace Go.Proofs.YtjpalcejmloocaaGreat.World
open Go.RowKit Go.Proofs.YtjpalcejmloocaaGreat.Plain
set_option linter.unusedVariables false
/-- the first world, and so many things, each with the one ahead of it -/
def chainW : Nat → PW
  | 0 => firstW
  | k + 1 => (chainW k).add 7 1 [⟨true, if k = 0 then 0 else 22 + (k : Int)⟩] ByteArray.empty
/-- and a weak one, in the frame -/
def toldW0 (k : Nat) : PW := (chainW k).add 16 2 [⟨true, 22 + (k : Int)⟩] ByteArray.empty
def toldW (k : Nat) : PW := { toldW0 k with R := { (toldW0 k).R with frame := 23 + (k : Int) } }
def told1S (k : Nat) : MS := (newS (toldW k) 3).watch (22 + k)
/-- a whole collection -/
def MS.whl (S : MS) : Option MS := (MS.wholeO 400 400 S).map (·.1)
def told2B (k : Nat) (S2 : MS) : Bool :=
  decide (S2.fmt (22 + k) = 1) && okRB S2.R && (decide (S2.R.due = [22 + (k : Int)]) && (!S2.final (22 + k) && (((S2.get (23 + k) 0).obj && decide ((S2.get (23 + k) 0).n = 0)) && (List.range k).all (fun i => S2.has (22 + (k : Int) - (i : Int))))))
/-- the registers that are handed in -/
def toldR (S2 : MS) (weak : Bool) : PR := { S2.R with due := [], frame := if weak then 0 else S2.R.frame }
def told4B (k : Nat) (weak : Bool) (S4 : MS) : Bool :=
  (List.range k).all (fun i => !S4.has (22 + (k : Int) - (i : Int))) && ((S4.has (23 + (k : Int)) != weak) && (decide (S4.R.due.length = 0) && okRB S4.R))
def told3B (k : Nat) (weak : Bool) (S2 S3 : MS) : Bool :=
  okRB S3.R && (okRB (toldR S2 weak) && (decide (S3.R.due.length = 1) && (S3.has 23 && (checkB (S3.worldL S3.last (toldR S2 weak)) && match (S3.setR (toldR S2 weak)).whl with
    | none => false
    | some S4 => told4B k weak S4))))
def toldB (k : Nat) (weak : Bool) : Bool :=
  match (told1S k).whl with
  | none => false
  | some S2 => told2B k S2 && match S2.whl with
    | none => false
    | some S3 => told3B k weak S2 S3
def told0B (k : Nat) : Bool := checkB (toldW k) && ((newS (toldW k) 3).watchOK (22 + k) && !(told1S k).watchOK 5)
theorem told_start : ∀ k, k < 20 → told0B (k + 1) = true := by decide +kernel
theorem told_all : ∀ k, k < 20 → toldB (k + 1) true = true ∧ toldB (k + 1) false = true := by decide +kernel
theorem whole_le (n : Nat) : ∀ (k : Nat) (S S' : MS) (r : Int), MS.wholeO n k S = some (S', r) → r ≤ k
  | 0, S, S', r, h => by cases h
  | k + 1, S, S', r, h => by
    obtain ⟨S1, d, _, hS⟩ := whole_parts h
    rcases hS with ⟨_, _, rfl⟩ | ⟨_, hq⟩
    · omega
    · have := whole_le n k S1 S' _ hq
      omega
theorem whl_parts {S S' : MS} (h : S.whl = some S') : ∃ t, MS.wholeO 400 400 S = some (S', t) ∧ t ≤ 1000000 := by
  unfold MS.whl at h
  cases hq : MS.wholeO 400 400 S with
  | none => rw [hq] at h; cases h
  | some p =>
    obtain ⟨S1, t⟩ := p
    rw [hq] at h
    injection h with h
    have h : S1 = S' := h
    subst h
    exact ⟨t, rfl, by have := whole_le 400 400 S S1 t hq; omega⟩
theorem told_parts {k : Nat} (hk : k < 20) (weak : Bool) : ∃ S2 S3 S4 t2 t3 t4, MS.wholeO 400 400 (told1S (k + 1)) = some (S2, t2) ∧ t2 ≤ 1000000 ∧ told2B (k + 1) S2 = true ∧ MS.wholeO 400 400 S2 = some (S3, t3) ∧ t3 ≤ 1000000 ∧ okRB S3.R = true ∧ okRB (toldR S2 weak) = true ∧ S3.R.due.length = 1 ∧ S3.has 23 = true ∧ checkB (S3.worldL S3.last (toldR S2 weak)) = true ∧ MS.wholeO 400 400 (S3.setR (toldR S2 weak)) = some (S4, t4) ∧ t4 ≤ 1000000 ∧ told4B (k + 1) weak S4 = true := by
  have h : toldB (k + 1) weak = true := by
    have := told_all k hk
    cases weak
    · exact this.2
    · exact this.1
  unfold toldB at h
  cases h2 : (told1S (k + 1)).whl with
  | none => rw [h2] at h; cases h
  | some S2 =>
    rw [h2] at h
    simp only at h
    rw [Bool.and_eq_true] at h
    cases h3 : S2.whl with
    | none => rw [h3] at h; exact absurd (show false = true from h.2) (by decide)
    | some S3 =>
      rw [h3] at h
      obtain ⟨ha, hb⟩ := h
      unfold told3B at hb
      simp only [Bool.and_eq_true, decide_eq_true_eq] at hb
      obtain ⟨b1, b2, b3, b4, b5, b6⟩ := hb
      cases h4 : (S3.setR (toldR S2 weak)).whl with
      | none => rw [h4] at b6; cases b6
      | some S4 =>
        rw [h4] at b6
        obtain ⟨t2, q2, l2⟩ := whl_parts h2
        obtain ⟨t3, q3, l3⟩ := whl_parts h3
        obtain ⟨t4, q4, l4⟩ := whl_parts h4
        exact ⟨S2, S3, S4, t2, t3, t4, q2, l2, ha, q3, l3, b1, b2, b3, b4, b5, q4, l4, b6⟩
end Go.Proofs.YtjpalcejmloocaaGreat.World
