/-
  BackPlain2, as one text (a claim has at most 60 files).
-/
import Derived.Test.YtjpalcejmloocaaGreatVq38
namespace Go.Proofs.YtjpalcejmloocaaGreat.World
open Go.RowKit Go.Proofs.YtjpalcejmloocaaGreat.Plain
set_option linter.unusedVariables false
theorem ths_b4 : ∀ (l : List PT) (r : List Int), (∀ t ∈ l, BackT t) → thsR l.length ⟨l.flatMap encT ++ r, 0⟩ = (l, ⟨r, 0⟩) := by
  suffices h : ∀ (k : Nat) (l : List PT) (r : List Int), k ≤ l.length → (∀ t ∈ l, BackT t) → thsR k ⟨l.flatMap encT ++ r, 0⟩ = (l.take k, ⟨(l.drop k).flatMap encT ++ r, 0⟩) by
    intro l r hx
    have q := h l.length l r (Nat.le_refl _) hx
    rw [q, List.take_length, List.drop_length]; rfl
  intro k
  induction k with
  | zero => intro l r _ _; rfl
  | succ k ih =>
    intro l r hk hx
    have q := ih l r (by omega) hx
    have hkl : k < l.length := by omega
    show ((thsR k _).1 ++ [(thingR (thsR k _).2).1], (thingR (thsR k _).2).2) = _
    rw [q]
    have hd : l.drop k = l[k] :: l.drop (k + 1) := List.drop_eq_getElem_cons hkl
    rw [hd, List.flatMap_cons, List.append_assoc]
    simp only [thing_b4 (hx l[k] (List.getElem_mem hkl))]
    rw [List.take_succ_eq_append_getElem hkl]
theorem waits_b4 : ∀ (l : List (Int × Int)) (r : List Int), (∀ p ∈ l, (0 ≤ p.1 ∧ p.1 < 4294967296) ∧ (0 ≤ p.2 ∧ p.2 < 4294967296)) → waitsR l.length ⟨l.flatMap encWt ++ r, 0⟩ = (l, ⟨r, 0⟩) := by
  suffices h : ∀ (k : Nat) (l : List (Int × Int)) (r : List Int), k ≤ l.length → (∀ p ∈ l, (0 ≤ p.1 ∧ p.1 < 4294967296) ∧ (0 ≤ p.2 ∧ p.2 < 4294967296)) → waitsR k ⟨l.flatMap encWt ++ r, 0⟩ = (l.take k, ⟨(l.drop k).flatMap encWt ++ r, 0⟩) by
    intro l r hx
    have q := h l.length l r (Nat.le_refl _) hx
    rw [q, List.take_length, List.drop_length]; rfl
  intro k
  induction k with
  | zero => intro l r _ _; rfl
  | succ k ih =>
    intro l r hk hx
    have q := ih l r (by omega) hx
    have hkl : k < l.length := by omega
    show ((waitsR k _).1 ++ [((numR (waitsR k _).2).1, (numR (numR (waitsR k _).2).2).1)], (numR (numR (waitsR k _).2).2).2) = _
    rw [q]
    have hd : l.drop k = l[k] :: l.drop (k + 1) := List.drop_eq_getElem_cons hkl
    obtain ⟨⟨a0, a1⟩, ⟨c0, c1⟩⟩ := hx l[k] (List.getElem_mem hkl)
    rw [hd, List.flatMap_cons, List.append_assoc]
    unfold encWt
    rw [List.append_assoc]
    simp only [num_b4 a0 a1, num_b4 c0 c1]
    rw [List.take_succ_eq_append_getElem hkl]
theorem flatP_len (l : List (Int × Int)) : (l.flatMap encWt).length = 8 * l.length := by
  induction l with
  | nil => rfl
  | cons a l ih =>
    rw [List.flatMap_cons, List.length_append, ih, List.length_cons]
    show (b4 a.1 ++ b4 a.2).length + _ = _
    rw [List.length_append, b4_len, b4_len]; omega
/-- what an image keeps of a world -/
def bareW (W : PW) : PW := ⟨W.L, [], W.last, ⟨W.R.proc, W.R.frame, W.R.ready, W.R.wait, W.R.due, ByteArray.empty, ByteArray.empty, 0, 0, []⟩⟩
structure BackW (W : PW) : Prop where
  L : ∀ t ∈ W.L, BackT t
  N : W.L.length < 4294967296
  proc : 0 ≤ W.R.proc ∧ W.R.proc < 4294967296
  frame : 0 ≤ W.R.frame ∧ W.R.frame < 4294967296
  last : 0 ≤ W.last ∧ W.last < 4294967296
  ready : ∀ x ∈ W.R.ready, 0 ≤ x ∧ x < 4294967296
  due : ∀ x ∈ W.R.due, 0 ≤ x ∧ x < 4294967296
  wait : ∀ p ∈ W.R.wait, (0 ≤ p.1 ∧ p.1 < 4294967296) ∧ (0 ≤ p.2 ∧ p.2 < 4294967296)
  lens : W.R.ready.length < 4294967296 ∧ W.R.wait.length < 4294967296 ∧ W.R.due.length < 4294967296
theorem regs_b4 {W : PW} (h : BackW W) : regsG W.L ⟨b4 W.R.proc ++ (b4 W.R.frame ++ (encL W.R.ready ++ (b4 W.R.wait.length ++ (W.R.wait.flatMap encWt ++ (encL W.R.due ++ b4 W.last))))), 0⟩ = (bareW W, ⟨[], 0⟩) := by
  have e5 : numR ⟨b4 W.last, 0⟩ = (W.last, ⟨[], 0⟩) := by
    have := num_b4 h.last.1 h.last.2 []
    rwa [List.append_nil] at this
  have ec : countR 8 ⟨b4 (W.R.wait.length : Int) ++ (W.R.wait.flatMap encWt ++ (encL W.R.due ++ b4 W.last)), 0⟩ = ((W.R.wait.length : Int), ⟨W.R.wait.flatMap encWt ++ (encL W.R.due ++ b4 W.last), 0⟩) :=
    count_b4 (by omega) (by have := h.lens.2.1; omega) _ (by rw [List.length_append, flatP_len]; omega)
  unfold regsG
  simp only [num_b4 h.proc.1 h.proc.2, num_b4 h.frame.1 h.frame.2, places_b4 _ _ h.ready h.lens.1, ec, Int.toNat_natCast, waits_b4 _ _ h.wait, places_b4 _ _ h.due h.lens.2.2, e5]
  rfl
/-- a thing's bytes are at least sixteen -/
theorem encT_len16 (t : PT) : 16 ≤ (encT t).length := by
  unfold encT
  split <;> simp only [List.length_append, b4_len] <;> omega
theorem flatT_len (l : List PT) : l.length ≤ (l.flatMap encT).length := by
  induction l with
  | nil => exact Nat.le_refl _
  | cons a l ih =>
    have := encT_len16 a
    rw [List.flatMap_cons, List.length_append, List.length_cons]; omega
theorem all_b4 {W : PW} (h : BackW W) (hc : checkB (bareW W) = true) : ∃ r, encW W = [67, 81, 49] ++ r ∧ allG ⟨r, 0⟩ = (bareW W, ⟨[], 0⟩) := by
  refine ⟨b4 W.L.length ++ (W.L.flatMap encT ++ (b4 W.R.proc ++ (b4 W.R.frame ++ (encL W.R.ready ++ (b4 W.R.wait.length ++ (W.R.wait.flatMap encWt ++ (encL W.R.due ++ b4 W.last))))))), ?_, ?_⟩
  · unfold encW
    simp only [List.append_assoc]
  · have ec : countR 1 ⟨b4 (W.L.length : Int) ++ (W.L.flatMap encT ++ (b4 W.R.proc ++ (b4 W.R.frame ++ (encL W.R.ready ++ (b4 W.R.wait.length ++ (W.R.wait.flatMap encWt ++ (encL W.R.due ++ b4 W.last))))))), 0⟩ = ((W.L.length : Int), ⟨W.L.flatMap encT ++ (b4 W.R.proc ++ (b4 W.R.frame ++ (encL W.R.ready ++ (b4 W.R.wait.length ++ (W.R.wait.flatMap encWt ++ (encL W.R.due ++ b4 W.last)))))), 0⟩) :=
      count_b4 (by omega) (by have := h.N; omega) _ (by have := flatT_len W.L; rw [List.length_append]; omega)
    unfold allG
    simp only [ec, Int.toNat_natCast, ths_b4 _ _ h.L, regs_b4 h]
    have ho : overR ⟨[], 0⟩ = ⟨[], 0⟩ := rfl
    rw [ho]
    unfold seenR
    rw [if_neg (by rw [hc]; simp)]
/-! ### a world that may be, without dead ones, comes back -/
theorem bare_live {W : PW} (hd : W.dead.contains true = false) (i : Int) : liveB (bareW W) i = liveB W i := by
  unfold liveB bareW
  have e : ∀ k, W.dead.getD k false = false := fun k => by
    cases e2 : W.dead.getD k false with
    | false => rfl
    | true =>
      exfalso
      have hm : true ∈ W.dead := by
        by_cases hk : k < W.dead.length
        · rw [List.getD_eq_getElem?_getD, List.getElem?_eq_getElem hk] at e2
          have e3 : W.dead[k] = true := e2
          rw [← e3]; exact List.getElem_mem hk
        · rw [List.getD_eq_getElem?_getD, List.getElem?_eq_none (by omega)] at e2; cases e2
      have : W.dead.contains true = true := List.contains_iff_mem.2 hm
      rw [hd] at this; cases this
  show (decide _ && !([] : List Bool).getD _ false) = _
  rw [e]
  simp
theorem bare_check {W : PW} (hc : checkB W = true) (hd : W.dead.contains true = false) : checkB (bareW W) = true := by
  have hl := bare_live hd
  have ht : ∀ i, thereB (bareW W) i = thereB W i := fun i => by unfold thereB; rw [hl]
  have htl : ∀ l, thereL (bareW W) l = thereL W l := fun l => by unfold thereL; simp only [ht]
  have hw : ∀ l, waitB (bareW W) l = waitB W l := fun l => by unfold waitB; simp only [ht]
  have hf : ∀ F, liveF (bareW W) F = liveF W F := fun F => by unfold liveF; simp only [hl]
  have hth : ∀ i, thingB (bareW W) i = thingB W i := fun i => by unfold thingB; simp only [hl, hf]; rfl
  have ho : ∀ i, oneB (bareW W) i = oneB W i := fun i => by unfold oneB; rw [hth]; rfl
  have hts : thingsB (bareW W) = thingsB W := by
    unfold thingsB
    have e : oneB (bareW W) = oneB W := funext ho
    rw [e]; rfl
  unfold checkB at hc ⊢
  simp only [Bool.and_eq_true, decide_eq_true_eq] at hc ⊢
  obtain ⟨h1, h2, h3, h4, h5⟩ := hc
  refine ⟨h1, .inl rfl, by rw [hts]; exact h3, h4, ?_⟩
  unfold regsB at h5 ⊢
  simp only [Bool.and_eq_true, Bool.or_eq_true, decide_eq_true_eq] at h5 ⊢
  obtain ⟨g1, g2, g3, g4, g5, g6, g7, g8⟩ := h5
  refine ⟨?_, ?_, ?_, ?_, g5, ?_, ?_, ?_⟩
  · show W.R.proc = 0 ∨ thereB (bareW W) W.R.proc = true
    rw [ht]; exact g1
  · show W.R.frame = 0 ∨ thereB (bareW W) W.R.frame = true
    rw [ht]; exact g2
  · show thereL (bareW W) W.R.ready = true
    rw [htl]; exact g3
  · show thereL (bareW W) W.R.due = true
    rw [htl]; exact g4
  · show waitB (bareW W) W.R.wait = true
    rw [hw]; exact g6
  · exact ⟨g7.1, g7.2.1, g7.2.2.1, (by show (0 : Nat) ≤ 20; decide), (by show (0 : Nat) ≤ 4096; decide), (by show (0 : Nat) ≤ 4096; decide), (by show (0 : Int) ≤ 0; decide), (by show (0 : Int) ≤ 4; decide), (by show (0 : Int) ≤ 0; decide), (by show (0 : Int) ≤ 255; decide)⟩
  · rfl
theorem back_v {W : PW} (hc : checkB W = true) {i : Nat} (hi : i < W.L.length) : BackT (tAt W.L i) := by
  obtain ⟨⟨c1, c2⟩, s⟩ := check_thing hc hi
  have hN := check_len hc
  obtain ⟨h1, h2⟩ := hash_in hc hi
  unfold shapeB at s
  split at s
  · rename_i h3
    simp only [Bool.and_eq_true, decide_eq_true_eq] at s
    have hF : (tAt W.L i).F = [] := List.eq_nil_of_length_eq_zero s.1
    exact ⟨⟨c1, by omega⟩, ⟨h1, by omega⟩, by omega, fun _ => hF, fun h => absurd h3 h, by omega, by omega, fun v hv => by rw [hF] at hv; cases hv⟩
  · rename_i h3
    split at s
    · rename_i h12
      simp only [Bool.and_eq_true, decide_eq_true_eq] at s
      have hB : (tAt W.L i).B = ByteArray.empty := ByteArray.ext (Array.eq_empty_of_size_eq_zero s.1)
      refine ⟨⟨c1, by omega⟩, ⟨h1, by omega⟩, by omega, fun h => absurd h h3, fun _ => hB, by omega, by omega, fun v hv => ?_⟩
      obtain ⟨p, hp, ep⟩ := List.mem_iff_getElem.1 hv
      have f := (allTo_iff _ _).1 s.2.2 p hp
      have e : vAt (tAt W.L i).F p = v := by unfold vAt; rw [List.getD_eq_getElem?_getD, List.getElem?_eq_getElem hp, ep]; rfl
      rw [e] at f
      unfold fldB at f
      constructor
      · intro ho
        rw [if_pos ho, decide_eq_true_eq] at f
        omega
      · intro ho
        rw [if_neg (by rw [ho]; decide)] at f
        obtain ⟨a, b⟩ := fits_of f
        exact ⟨by omega, by omega⟩
    · cases s
theorem back_w {W : PW} (hc : checkB W = true) : BackW W := by
  have OK := canon_ok hc
  have hN := check_len hc
  have RL := regs_lens hc
  have LI := last_in hc
  refine ⟨fun t ht => ?_, by omega, ?_, ?_, ⟨LI.1, by omega⟩, fun x hx => ?_, fun x hx => ?_, fun p hp => ?_, by omega⟩
  · obtain ⟨i, hi, e⟩ := List.mem_iff_getElem.1 ht
    have q := back_v hc hi
    unfold tAt at q
    rw [List.getD_eq_getElem?_getD, List.getElem?_eq_getElem hi, e] at q
    exact q
  · rcases OK.proc with e | e <;> omega
  · rcases OK.frame with e | e <;> omega
  · obtain ⟨i, hi, e⟩ := List.mem_iff_getElem.1 hx
    have q := OK.ready i hi
    rw [List.getD_eq_getElem?_getD, List.getElem?_eq_getElem hi, e] at q
    replace q : okN W.L.length x := q
    rcases q with e | e <;> omega
  · obtain ⟨i, hi, e⟩ := List.mem_iff_getElem.1 hx
    have q := OK.due i hi
    rw [List.getD_eq_getElem?_getD, List.getElem?_eq_getElem hi, e] at q
    replace q : okN W.L.length x := q
    rcases q with e | e <;> omega
  · obtain ⟨i, hi, e⟩ := List.mem_iff_getElem.1 hp
    have q := OK.wait i hi
    unfold wAt at q
    rw [List.getD_eq_getElem?_getD, List.getElem?_eq_getElem hi, e] at q
    replace q : okN W.L.length p.1 ∧ okN W.L.length p.2 := q
    obtain ⟨q1, q2⟩ := q
    refine ⟨?_, ?_⟩
    · rcases q1 with e | e <;> omega
    · rcases q2 with e | e <;> omega
/-- what is put is got -/
theorem get_put {W : PW} (h : (putS W).1 = 0) : getS (putS W).2 = (0, some (bareW W)) ∧ 3 ≤ (putS W).2.length ∧ checkB W = true ∧ W.dead.contains true = false := by
  unfold putS at h ⊢
  by_cases h1 : (!checkB W || W.dead.contains true) = true
  · rw [if_pos h1] at h; exact absurd h (by decide)
  · rw [if_neg h1] at h ⊢
    by_cases h2 : 65536 < (encW W).length
    · rw [if_pos h2] at h; exact absurd h (by decide)
    · rw [if_neg h2]
      have hc : checkB W = true := by
        cases e : checkB W with
        | true => rfl
        | false => rw [e] at h1; exact absurd rfl h1
      have hd : W.dead.contains true = false := by
        cases e : W.dead.contains true with
        | false => rfl
        | true => rw [e, Bool.or_true] at h1; exact absurd rfl h1
      obtain ⟨r, e1, e2⟩ := all_b4 (back_w hc) (bare_check hc hd)
      have hl : 3 ≤ (encW W).length := by rw [e1, List.length_append]; show 3 ≤ 3 + _; omega
      have ht : (takeR 3 ⟨encW W, 0⟩).2 = ⟨r, 0⟩ := by
        unfold takeR
        rw [if_pos rfl, if_pos (by exact hl)]
        show (⟨List.drop 3 (encW W), 0⟩ : RdS) = _
        rw [e1]; rfl
      refine ⟨?_, hl, hc, hd⟩
      show getS (encW W) = _
      unfold getS
      rw [if_neg h2, ht, e2]
      have hm : min (encW W).length 3 = 3 := by omega
      rw [hm, e1]
      rfl
end Go.Proofs.YtjpalcejmloocaaGreat.World
