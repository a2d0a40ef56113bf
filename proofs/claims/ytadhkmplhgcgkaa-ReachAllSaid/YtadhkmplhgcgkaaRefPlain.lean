/-
  colloquyref07.Check answers checkB: the plain law, the contract.
-/
import Derived.Test.YtadhkmplhgcgkaaRefCheck
namespace Go.Proofs.Ytadhkmplhgcgkaa.World
open Go.RowKit Go.Proofs.Ytadhkmplhgcgkaa.Plain
set_option linter.unusedVariables false
theorem val_iff (W : PW) (live : Bool) (v : PV) : valB W live v = true ↔ fldB W.L.length v = true ∧ (live = true → (!v.obj || liveB W v.n) = true) := by
  unfold valB fldB
  cases v.obj with
  | false => simp
  | true => cases live <;> simp
theorem vals_iff (W : PW) (live : Bool) (F : List PV) : valsB W live F = true ↔ fldsB W.L.length F = true ∧ (live = true → liveF W F = true) := by
  unfold valsB fldsB liveF
  rw [allTo_iff, allTo_iff, allTo_iff]
  constructor
  · intro h
    exact ⟨fun i hi => ((val_iff W live _).1 (h i hi)).1, fun hl i hi => ((val_iff W live _).1 (h i hi)).2 hl⟩
  · rintro ⟨h1, h2⟩ i hi
    exact (val_iff W live _).2 ⟨h1 i hi, fun hl => h2 hl i hi⟩
theorem fmt_iff (W : PW) (live : Bool) (t : PT) : fmtB W live t = true ↔ shapeB W.L.length t = true ∧ (live = true → liveF W t.F = true) := by
  unfold fmtB shapeB
  by_cases h1 : t.fmt = 1 ∨ t.fmt = 2
  · have h3 : ¬ t.fmt = 3 := by omega
    rw [if_pos h1, if_neg h3, if_pos h1]
    simp only [Bool.and_eq_true, vals_iff]
    constructor
    · rintro ⟨⟨a, b⟩, c, d⟩; exact ⟨⟨d, c, a⟩, b⟩
    · rintro ⟨⟨d, c, a⟩, b⟩; exact ⟨⟨a, b⟩, c, d⟩
  · rw [if_neg h1]
    by_cases h3 : t.fmt = 3
    · rw [if_pos h3, if_pos h3]
      constructor
      · intro h
        refine ⟨h, fun _ => ?_⟩
        rw [Bool.and_eq_true, decide_eq_true_eq] at h
        unfold liveF
        rw [h.1]; rfl
      · exact fun h => h.1
    · rw [if_neg h3, if_neg h3, if_neg h1]
      simp
theorem refT_iff (W : PW) (i : Nat) : refT W i = true ↔ (0 ≤ (tAt W.L i).cls ∧ (tAt W.L i).cls < W.L.length) ∧ (1 ≤ (tAt W.L i).hash ∧ (tAt W.L i).hash ≤ 3000) ∧ (i = 0 ∨ prevH W.L i < (tAt W.L i).hash) ∧ shapeB W.L.length (tAt W.L i) = true ∧
    (liveB W i = true → classB W (tAt W.L i).cls = true ∧ liveF W (tAt W.L i).F = true) := by
  unfold refT headT
  simp only [Bool.and_eq_true, Bool.or_eq_true, decide_eq_true_eq, fmt_iff]
  constructor
  · rintro ⟨⟨a, b, c, d⟩, e, f⟩
    refine ⟨a, c, d, e, fun hl => ⟨?_, f hl⟩⟩
    rcases b with b | b
    · rw [hl] at b; cases b
    · exact b
  · rintro ⟨a, c, d, e, f⟩
    refine ⟨⟨a, ?_, c, d⟩, e, fun hl => (f hl).2⟩
    cases hl : liveB W i with
    | false => exact .inl rfl
    | true => exact .inr (f hl).1
theorem one_iff (W : PW) (i : Nat) : oneB W i = true ↔ prevH W.L i < (tAt W.L i).hash ∧ (tAt W.L i).hash ≤ 3000 ∧ (0 ≤ (tAt W.L i).cls ∧ (tAt W.L i).cls < W.L.length) ∧ shapeB W.L.length (tAt W.L i) = true ∧
    (liveB W i = true → classB W (tAt W.L i).cls = true ∧ liveF W (tAt W.L i).F = true) ∧ (liveB W i = false → 23 ≤ i) := by
  unfold oneB thingB classB
  simp only [Bool.and_eq_true, decide_eq_true_eq]
  cases hl : liveB W i with
  | false => simp
  | true =>
    simp only [if_true, Bool.and_eq_true]
    constructor
    · rintro ⟨a, b, c, d, e, f, g⟩; exact ⟨a, b, c, d, fun _ => ⟨⟨e, f⟩, g⟩, fun h => by cases h⟩
    · rintro ⟨a, b, c, d, e, _⟩; obtain ⟨⟨x, y⟩, z⟩ := e trivial; exact ⟨a, b, c, d, x, y, z⟩
theorem one_pos (W : PW) (n : Nat) (h : ∀ i, i < n → oneB W i = true) : ∀ i, i < n → 1 ≤ (tAt W.L i).hash := by
  intro i
  induction i with
  | zero => intro hi; have := ((one_iff W 0).1 (h 0 hi)).1; have e : prevH W.L 0 = 0 := rfl; omega
  | succ i ih =>
    intro hi
    have a := ((one_iff W (i + 1)).1 (h _ hi)).1
    have b := ih (by omega)
    rw [prevH_succ] at a
    omega
theorem things_iff (W : PW) : ((∀ i, i < W.L.length → refT W i = true) ∧ ∀ i, i < 23 → rspecB W i = true) ↔ (23 ≤ W.L.length → (∀ i, i < W.L.length → oneB W i = true) ∧ (∀ i, i < 23 → spec1B W i = true)) ∧ (23 ≤ W.L.length ∨ ((∀ i, i < W.L.length → refT W i = true) ∧ ∀ i, i < 23 → rspecB W i = true)) := by
  constructor
  · rintro ⟨h1, h2⟩
    refine ⟨fun hn => ⟨fun i hi => ?_, fun i hi => ?_⟩, .inr ⟨h1, h2⟩⟩
    · obtain ⟨a, b, c, d, e⟩ := (refT_iff W i).1 (h1 i hi)
      refine (one_iff W i).2 ⟨?_, b.2, a, d, e, fun hl => ?_⟩
      · rcases c with c | c
        · subst c; have q : prevH W.L 0 = 0 := rfl; omega
        · exact c
      · rcases Nat.lt_or_ge i 23 with q | q
        · have r := h2 i q
          unfold rspecB at r
          rw [hl] at r; cases r
        · exact q
    · have r := h2 i hi
      unfold rspecB at r
      rw [Bool.and_eq_true] at r
      exact r.2
  · rintro ⟨h, hn | hn⟩
    · obtain ⟨h1, h2⟩ := h hn
      have hp := one_pos W W.L.length h1
      refine ⟨fun i hi => ?_, fun i hi => ?_⟩
      · obtain ⟨a, b, c, d, e, f⟩ := (one_iff W i).1 (h1 i hi)
        exact (refT_iff W i).2 ⟨c, ⟨hp i hi, b⟩, .inr a, d, e⟩
      · obtain ⟨a, b, c, d, e, f⟩ := (one_iff W i).1 (h1 i (by omega))
        unfold rspecB
        rw [h2 i hi, Bool.and_true]
        cases hl : liveB W i with
        | true => rfl
        | false => have := f hl; omega
    · exact hn
theorem unl_once (W : PW) (l : List Int) (h : thereL W l = true) : allTo (unlB W.L.length l) l.length = onceB l := by
  unfold thereL at h
  have h := (allTo_iff _ _).1 h
  rw [Bool.eq_iff_iff]
  unfold onceB
  rw [allTo_iff, allTo_iff]
  have e : ∀ j, j < l.length → unlB W.L.length l j = !(l.take j).contains (l.getD j 0) := fun j hj => by
    unfold unlB
    have q := there_in (h j hj)
    rw [decide_eq_true q, Bool.true_and]
  constructor
  · intro g i hi; rw [← e i hi]; exact g i hi
  · intro g i hi; rw [e i hi]; exact g i hi
theorem live_there (W : PW) (h0 : liveB W 0 = true) (p : Int) : liveB W p = (decide (p = 0) || thereB W p) := by
  unfold thereB
  by_cases h : p = 0
  · subst h; rw [h0]; simp
  · rw [decide_eq_false h]; simp
theorem regs_iff (W : PW) (h0 : liveB W 0 = true) : regR W = regsB W := by
  unfold regR tailC tailR regsB
  rw [live_there W h0 W.R.proc, live_there W h0 W.R.frame]
  cases h : thereL W W.R.due with
  | false => simp
  | true =>
    rw [unl_once W _ h]
    rw [Bool.eq_iff_iff]
    simp only [Bool.and_eq_true, decide_eq_true_eq, true_and]
    constructor
    · rintro ⟨a, b, c, d, ⟨e, f⟩, g, i, j, k, l, m, n, o, p, q⟩
      simp_all
      omega
    · intro hh
      simp_all
      omega
theorem ref_chk (W : PW) : refChk W = checkB W := by
  unfold refChk checkB
  by_cases hn : 23 ≤ W.L.length ∧ W.L.length ≤ 3000
  · rw [decide_eq_true hn, Bool.true_and, Bool.true_and]
    congr 1
    have TI := things_iff W
    obtain ⟨k, hk⟩ : ∃ k, W.L.length = k + 1 := ⟨W.L.length - 1, by omega⟩
    have hp : prevH W.L W.L.length = (tAt W.L (W.L.length - 1)).hash := by rw [hk]; rfl
    rw [Bool.eq_iff_iff]
    unfold thingsB specB
    simp only [Bool.and_eq_true, allTo_iff, decide_eq_true_eq, hp]
    constructor
    · rintro ⟨a, b, c, d, e⟩
      obtain ⟨x, y⟩ := (TI.1 ⟨a, b⟩).1 hn.1
      have l0 : liveB W 0 = true := by
        have r := b 0 (by omega)
        unfold rspecB at r
        rw [Bool.and_eq_true] at r
        exact r.1
      rw [regs_iff W l0] at c
      exact ⟨⟨x, d, e⟩, y, c⟩
    · rintro ⟨⟨x, d, e⟩, y, c⟩
      obtain ⟨a, b⟩ := TI.2 ⟨fun _ => ⟨x, y⟩, .inl hn.1⟩
      have l0 : liveB W 0 = true := by
        have r := b 0 (by omega)
        unfold rspecB at r
        rw [Bool.and_eq_true] at r
        exact r.1
      rw [← regs_iff W l0] at c
      exact ⟨a, b, c, d, e⟩
  · rw [decide_eq_false hn, Bool.false_and, Bool.false_and]
theorem check7 {w : World} {x : WV} {W : PW} (h : WorldAt w x W) : Calls Try.prog 15 #[.agg (cellsW W x)] w fun e w' => e = .returned (.bool (checkB W)) ∧ Ext w w' := by
  have q := rcheck h
  rw [ref_chk] at q
  exact q
end Go.Proofs.Ytadhkmplhgcgkaa.World
