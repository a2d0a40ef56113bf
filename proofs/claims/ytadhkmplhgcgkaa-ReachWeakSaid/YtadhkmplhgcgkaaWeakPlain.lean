/-
  ReachWeak, plain: a chain of things, some of them Weak; what can be come to.
-/
import Derived.Test.YtadhkmplhgcgkaaAwake8
namespace Go.Proofs.Ytadhkmplhgcgkaa.World
open Go.RowKit Go.Proofs.Ytadhkmplhgcgkaa.Plain
set_option linter.unusedVariables false
def isW (l : List Int) (i : Nat) : Bool := decide ((l.getD i 0).tmod 3 = 0)
def clsW (b : Bool) : Int := if b then 16 else 7
def fmtW (b : Bool) : Int := if b then 2 else 1
def nextO (k : Nat) : Int := if k = 0 then 0 else ((22 + k : Nat) : Int)
def chT (l : List Int) (q : Nat) : PT := ⟨clsW (isW l q), fmtW (isW l q), ((23 + q : Nat) : Int) + 1, false, [num q, objV (nextO q)], ByteArray.empty⟩
def weakW (l : List Int) : Nat → PW
  | 0 => firstW
  | k + 1 => (weakW l k).add (clsW (isW l k)) (fmtW (isW l k)) [num k, objV (nextO k)] ByteArray.empty
theorem weak_R (l : List Int) (k : Nat) : (weakW l k).R = regs0 ∧ (weakW l k).dead = [] := by
  induction k with
  | zero => exact ⟨rfl, rfl⟩
  | succ k ih => exact ih
theorem weak_len (l : List Int) (k : Nat) : (weakW l k).L.length = 23 + k ∧ (weakW l k).last = ((23 + k : Nat) : Int) := by
  induction k with
  | zero => exact ⟨firstL_len 23, rfl⟩
  | succ k ih =>
    refine ⟨?_, ?_⟩
    · show ((weakW l k).L ++ [_]).length = _
      rw [List.length_append, ih.1]; rfl
    · show (weakW l k).last + 1 = _
      rw [ih.2]; omega
theorem weak_at (l : List Int) (k : Nat) : (∀ j, j < 23 → tAt (weakW l k).L j = firstT j) ∧ ∀ q, q < k → tAt (weakW l k).L (23 + q) = chT l q := by
  induction k with
  | zero => exact ⟨fun j hj => firstL_at 23 j hj, fun q hq => by omega⟩
  | succ k ih =>
    have hl := weak_len l k
    refine ⟨fun j hj => ?_, fun q hq => ?_⟩
    · show tAt ((weakW l k).L ++ [_]) j = _
      rw [MS.tAt_app, hl.1, if_pos (by omega)]; exact ih.1 j hj
    · show tAt ((weakW l k).L ++ [_]) (23 + q) = _
      rw [MS.tAt_app, hl.1]
      by_cases h : q < k
      · rw [if_pos (by omega)]; exact ih.2 q h
      · obtain rfl : q = k := by omega
        rw [if_neg (by omega), if_pos rfl, hl.2]; rfl
theorem weak_check (l : List Int) (k : Nat) (hk : k ≤ 30) : checkB (weakW l k) = true := by
  induction k with
  | zero => exact first_check
  | succ k ih =>
    have hl := weak_len l k
    have ha := weak_at l k
    refine check_add (ih (by omega)) (weak_R l k).2 (by rw [hl.2]; omega) (by rw [hl.1]; omega) ?_ ?_ ?_
    · rw [hl.1]; unfold clsW; split <;> omega
    · unfold clsW
      split
      · show isClsB (tAt (weakW l k).L 16) = true
        rw [ha.1 16 (by omega)]; decide +kernel
      · show isClsB (tAt (weakW l k).L 7) = true
        rw [ha.1 7 (by omega)]; decide +kernel
    · rw [hl.1]
      unfold shapeB fmtW
      have hf : fldsB (23 + k + 1) [num k, objV (nextO k)] = true := by
        show ((true && fldB (23 + k + 1) (num k)) && fldB (23 + k + 1) (objV (nextO k))) = true
        have h1 : fldB (23 + k + 1) (num k) = true := by
          have e : fldB (23 + k + 1) (num k) = fitsB (k : Int) := by unfold fldB num; simp
          rw [e]; exact fits_yes (by omega) (by omega)
        have h2 : fldB (23 + k + 1) (objV (nextO k)) = true := by
          have e : fldB (23 + k + 1) (objV (nextO k)) = decide (0 ≤ nextO k ∧ nextO k < ((23 + k + 1 : Nat) : Int)) := by unfold fldB objV; simp
          rw [e]
          unfold nextO
          exact decide_eq_true (by split <;> omega)
        rw [h1, h2]; rfl
      cases isW l k with
      | true =>
        show (if (2 : Int) = 3 then _ else if (2 : Int) = 1 ∨ (2 : Int) = 2 then (decide (ByteArray.empty.size = 0) && (decide (2 ≤ 60) && fldsB (23 + k + 1) [num k, objV (nextO k)])) else false) = true
        rw [if_neg (by omega), if_pos (by omega), hf]; rfl
      | false =>
        show (if (1 : Int) = 3 then _ else if (1 : Int) = 1 ∨ (1 : Int) = 2 then (decide (ByteArray.empty.size = 0) && (decide (2 ≤ 60) && fldsB (23 + k + 1) [num k, objV (nextO k)])) else false) = true
        rw [if_neg (by omega), if_pos (by omega), hf]; rfl
/-- the frame's register turned -/
def endW (l : List Int) (k : Nat) : PW := { weakW l k with R := { regs0 with frame := nextO k } }
theorem end_check (l : List Int) (k : Nat) (hk : k ≤ 30) : checkB (endW l k) = true := by
  have h := weak_check l k hk
  have hl := weak_len l k
  unfold checkB at h ⊢
  simp only [Bool.and_eq_true] at h ⊢
  obtain ⟨h1, h2, h3, h4, h5⟩ := h
  refine ⟨h1, h2, h3, h4, ?_⟩
  unfold regsB
  have ht : (decide ((endW l k).R.frame = 0) || thereB (endW l k) (endW l k).R.frame) = true := by
    show (decide (nextO k = 0) || thereB (endW l k) (nextO k)) = true
    unfold nextO
    by_cases h0 : k = 0
    · rw [if_pos h0]; rfl
    · rw [if_neg h0]
      have e : thereB (endW l k) ((22 + k : Nat) : Int) = true := by
        unfold thereB
        rw [live_nil (show (endW l k).dead = [] from (weak_R l k).2)]
        rw [decide_eq_false (by omega), show (endW l k).L.length = 23 + k from hl.1, decide_eq_true (by omega)]; rfl
      rw [e, Bool.or_true]
  rw [ht]
  rfl
theorem end_roots (l : List Int) (k : Nat) : rootsOf (endW l k).R = upTo 23 ++ (if k = 0 then [] else [((22 + k : Nat) : Int)]) := by
  unfold rootsOf
  congr 1
  show (listOf { regs0 with frame := nextO k }).filter _ = _
  unfold listOf
  show (add1 (add1 [] 0) (nextO k)).filter _ = _
  rw [add1_zero]
  unfold nextO
  by_cases h0 : k = 0
  · rw [if_pos h0, if_pos h0, add1_zero]; rfl
  · rw [if_neg h0, if_neg h0]
    unfold add1
    rw [if_pos ⟨by omega, rfl⟩]
    show List.filter _ [((22 + k : Nat) : Int)] = _
    have e : decide ((23 : Int) ≤ ((22 + k : Nat) : Int)) = true := decide_eq_true (by omega)
    simp only [List.filter, e]
def stW (l : List Int) (k q : Nat) : Bool := allTo (fun j => !(decide (q < j) && isW l j)) k
theorem end_next (l : List Int) (k q : Nat) (hq : q < k) (weak : Bool) : nxW (endW l k) weak (23 + q) = clsW (isW l q) :: (if (!isW l q || weak) then [nextO q] else []) := by
  unfold nxW
  rw [show tAt (endW l k).L (23 + q) = chT l q from (weak_at l k).2 q hq]
  unfold nextsOf
  congr 1
  have e : goesOn weak (chT l q) = (!isW l q || weak) := by
    unfold goesOn chT fmtW
    cases isW l q <;> cases weak <;> rfl
  rw [e]; rfl
theorem first_next (l : List Int) (k j : Nat) (hj : j < 23) (weak : Bool) : ∀ y ∈ nxW (endW l k) weak j, 0 ≤ y ∧ y < 23 := by
  intro y hy
  unfold nxW at hy
  rw [show tAt (endW l k).L j = firstT j from (weak_at l k).1 j hj] at hy
  have all : ∀ b : Bool, (List.range 23).all (fun i => (nextsOf b (firstT i)).all (fun y => decide (0 ≤ y ∧ y < 23))) = true := by intro b; cases b <;> decide +kernel
  have h1 := List.all_eq_true.1 (all weak) j (List.mem_range.2 hj)
  exact of_decide_eq_true (List.all_eq_true.1 h1 y hy)
theorem st_iff (l : List Int) (k q : Nat) : stW l k q = true ↔ ∀ j, q < j → j < k → isW l j = false := by
  unfold stW
  rw [allTo_iff]
  constructor
  · intro h j h1 h2
    have := h j h2
    rw [decide_eq_true h1, Bool.true_and] at this
    simpa using this
  · intro h j hj
    by_cases h1 : q < j
    · rw [h j h1 hj]; simp
    · rw [decide_eq_false h1]; rfl
theorem end_rch (l : List Int) (k : Nat) (weak : Bool) (q : Nat) (hq : q < k) : Rch (nxW (endW l k) weak) (rootsOf (endW l k).R) (23 + q) ↔ (weak = true ∨ stW l k q = true) := by
  rw [end_roots]
  constructor
  · intro h
    generalize hi : 23 + q = i at h
    induction h generalizing q with
    | @root r hm =>
      rcases List.mem_append.1 hm with h | h
      · unfold upTo at h
        obtain ⟨z, hz, rfl⟩ := List.mem_map.1 h
        have := List.mem_range.1 hz
        omega
      · have hk0 : ¬ k = 0 := by omega
        rw [if_neg hk0, List.mem_singleton] at h
        exact .inr ((st_iff l k q).2 fun j h1 h2 => by omega)
    | @step i' j' hr hj ih =>
      rcases Nat.lt_or_ge i' 23 with h23 | h23
      · have := first_next l k i' h23 weak j' hj; omega
      · obtain ⟨p, rfl⟩ : ∃ p, i' = 23 + p := ⟨i' - 23, by omega⟩
        have hp : p < k := by
          rcases Nat.lt_or_ge p k with z | z
          · exact z
          · exfalso
            have e : tAt (endW l k).L (23 + p) = dT := by
              unfold tAt
              rw [List.getD_eq_getElem?_getD, List.getElem?_eq_none (by rw [show (endW l k).L.length = 23 + k from (weak_len l k).1]; omega)]; rfl
            unfold nxW at hj
            rw [e] at hj
            have hj : j' ∈ [(0 : Int)] := hj
            rw [List.mem_singleton] at hj
            omega
        rw [end_next l k p hp] at hj
        rcases List.mem_cons.1 hj with e | e
        · exfalso
          unfold clsW at e
          split at e <;> omega
        · by_cases g : (!isW l p || weak) = true
          · rw [if_pos g, List.mem_singleton] at e
            have hp0 : ¬ p = 0 := fun c => by rw [c] at e; unfold nextO at e; rw [if_pos rfl] at e; omega
            unfold nextO at e
            rw [if_neg hp0] at e
            have hpq : p = q + 1 := by omega
            rcases ih p hp rfl with z | z
            · exact .inl z
            · cases weak with
              | true => exact .inl rfl
              | false =>
                right
                rw [st_iff] at z ⊢
                intro j h1 h2
                by_cases hj2 : j = p
                · subst hj2; simpa using g
                · exact z j (by omega) h2
          · rw [if_neg g] at e; cases e
  · intro h
    have key : ∀ d q, q + d + 1 = k → (weak = true ∨ stW l k q = true) → Rch (nxW (endW l k) weak) (upTo 23 ++ (if k = 0 then [] else [((22 + k : Nat) : Int)])) (23 + q) := by
      intro d
      induction d with
      | zero =>
        intro q e _
        have m : ((22 + k : Nat) : Int) ∈ upTo 23 ++ (if k = 0 then [] else [((22 + k : Nat) : Int)]) := by
          rw [if_neg (by omega)]; simp
        have r := Rch.root (nx := nxW (endW l k) weak) m
        rw [Int.toNat_natCast] at r
        rw [show 23 + q = 22 + k by omega]
        exact r
      | succ d ih =>
        intro q e hs
        have s1 : weak = true ∨ stW l k (q + 1) = true := by
          rcases hs with z | z
          · exact .inl z
          · right; rw [st_iff] at z ⊢; intro j h1 h2; exact z j (by omega) h2
        have r := ih (q + 1) (by omega) s1
        have m : nextO (q + 1) ∈ nxW (endW l k) weak (23 + (q + 1)) := by
          rw [end_next l k (q + 1) (by omega)]
          have g : (!isW l (q + 1) || weak) = true := by
            rcases hs with z | z
            · rw [z]; simp
            · rw [(st_iff l k q).1 z (q + 1) (by omega) (by omega)]; rfl
          rw [if_pos g]; simp
        have r2 := Rch.step r m
        have e2 : (nextO (q + 1)).toNat = 23 + q := by unfold nextO; rw [if_neg (by omega), Int.toNat_natCast]; omega
        rw [e2] at r2
        exact r2
    exact key (k - 1 - q) q (by omega) h
theorem end_list (l : List Int) (k : Nat) (hk : k ≤ 30) (weak : Bool) {s : List Bool} (hs : RchL (endW l k).L.length (nxW (endW l k) weak) (rootsOf (endW l k).R) s) (q : Nat) (hq : q < k) : sB s (23 + q) = (weak || stW l k q) := by
  have a := hs.2 (23 + q)
  rw [end_rch l k weak q hq] at a
  rw [Bool.eq_iff_iff, a, Bool.or_eq_true]
theorem end_canon (l : List Int) (k : Nat) (hk : k ≤ 30) {s : List Bool} (hs : RchL (endW l k).L.length (nxW (endW l k) true) (rootsOf (endW l k).R) s) : (canonW (endW l k) s).L.length = (endW l k).L.length := by
  have hl : (endW l k).L.length = 23 + k := (weak_len l k).1
  have e := rch_all (end_check l k hk) (fun i hi => by
    rw [hl] at hi
    rcases Nat.lt_or_ge i 23 with h | h
    · exact rch_root h
    · obtain ⟨q, rfl⟩ : ∃ q, i = 23 + q := ⟨i - 23, by omega⟩
      exact (end_rch l k true q (by omega)).2 (.inl rfl)) hs
  subst e
  show (canK _ _ _).length = _
  unfold canK
  rw [List.length_map]
  have : (List.range (endW l k).L.length).filter (fun j => sB (List.replicate (endW l k).L.length true) j) = List.range (endW l k).L.length := by
    rw [List.filter_eq_self]
    intro j hj
    have := List.mem_range.1 hj
    unfold sB
    rw [List.getD_eq_getElem?_getD, List.getElem?_replicate, if_pos this]; rfl
  rw [this, List.length_range]
end Go.Proofs.Ytadhkmplhgcgkaa.World
