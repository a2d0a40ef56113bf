/-
  RefPlain, CanonPlain, CanonPlain2, CanonPlain3, as one text (a claim has at most 60 files).
-/
import Derived.Test.YtadhkmplhgcgkaaMb37
import Derived.Test.YtadhkmplhgcgkaaMb19
import Derived.Test.YtadhkmplhgcgkaaMb33
namespace Go.Proofs.Ytadhkmplhgcgkaa.World
open Go.RowKit Go.Proofs.Ytadhkmplhgcgkaa.Plain
set_option linter.unusedVariables false
theorem val_iff (W : PW) (live : Bool) (v : PV) : valB W live v = true ↔ fldB W.L.length v = true ∧ (live = true → (!v.obj || liveB W v.n) = true) := by
  unfold valB fldB
  cases v.obj with
  | false => simp
  | true => cases live <;> simp
theorem vals_iff (W : PW) (live : Bool) (F : List PV) : valsB W live F = true ↔ fldsB W.L.length F = true ∧ (live = true → liveF W F = true) := by
  unfold valsB fldsB liveF
  rw [allTo_iff, allTo_iff, allTo_iff]
  constructor
  · intro h
    exact ⟨fun i hi => ((val_iff W live _).1 (h i hi)).1, fun hl i hi => ((val_iff W live _).1 (h i hi)).2 hl⟩
  · rintro ⟨h1, h2⟩ i hi
    exact (val_iff W live _).2 ⟨h1 i hi, fun hl => h2 hl i hi⟩
theorem fmt_iff (W : PW) (live : Bool) (t : PT) : fmtB W live t = true ↔ shapeB W.L.length t = true ∧ (live = true → liveF W t.F = true) := by
  unfold fmtB shapeB
  by_cases h1 : t.fmt = 1 ∨ t.fmt = 2
  · have h3 : ¬ t.fmt = 3 := by omega
    rw [if_pos h1, if_neg h3, if_pos h1]
    simp only [Bool.and_eq_true, vals_iff]
    constructor
    · rintro ⟨⟨a, b⟩, c, d⟩; exact ⟨⟨d, c, a⟩, b⟩
    · rintro ⟨⟨d, c, a⟩, b⟩; exact ⟨⟨a, b⟩, c, d⟩
  · rw [if_neg h1]
    by_cases h3 : t.fmt = 3
    · rw [if_pos h3, if_pos h3]
      constructor
      · intro h
        refine ⟨h, fun _ => ?_⟩
        rw [Bool.and_eq_true, decide_eq_true_eq] at h
        unfold liveF
        rw [h.1]; rfl
      · exact fun h => h.1
    · rw [if_neg h3, if_neg h3, if_neg h1]
      simp
theorem refT_iff (W : PW) (i : Nat) : refT W i = true ↔ (0 ≤ (tAt W.L i).cls ∧ (tAt W.L i).cls < W.L.length) ∧ (1 ≤ (tAt W.L i).hash ∧ (tAt W.L i).hash ≤ 3000) ∧ (i = 0 ∨ prevH W.L i < (tAt W.L i).hash) ∧ shapeB W.L.length (tAt W.L i) = true ∧
    (liveB W i = true → classB W (tAt W.L i).cls = true ∧ liveF W (tAt W.L i).F = true) := by
  unfold refT headT
  simp only [Bool.and_eq_true, Bool.or_eq_true, decide_eq_true_eq, fmt_iff]
  constructor
  · rintro ⟨⟨a, b, c, d⟩, e, f⟩
    refine ⟨a, c, d, e, fun hl => ⟨?_, f hl⟩⟩
    rcases b with b | b
    · rw [hl] at b; cases b
    · exact b
  · rintro ⟨a, c, d, e, f⟩
    refine ⟨⟨a, ?_, c, d⟩, e, fun hl => (f hl).2⟩
    cases hl : liveB W i with
    | false => exact .inl rfl
    | true => exact .inr (f hl).1
theorem one_iff (W : PW) (i : Nat) : oneB W i = true ↔ prevH W.L i < (tAt W.L i).hash ∧ (tAt W.L i).hash ≤ 3000 ∧ (0 ≤ (tAt W.L i).cls ∧ (tAt W.L i).cls < W.L.length) ∧ shapeB W.L.length (tAt W.L i) = true ∧
    (liveB W i = true → classB W (tAt W.L i).cls = true ∧ liveF W (tAt W.L i).F = true) ∧ (liveB W i = false → 23 ≤ i) := by
  unfold oneB thingB classB
  simp only [Bool.and_eq_true, decide_eq_true_eq]
  cases hl : liveB W i with
  | false => simp
  | true =>
    simp only [if_true, Bool.and_eq_true]
    constructor
    · rintro ⟨a, b, c, d, e, f, g⟩; exact ⟨a, b, c, d, fun _ => ⟨⟨e, f⟩, g⟩, fun h => by cases h⟩
    · rintro ⟨a, b, c, d, e, _⟩; obtain ⟨⟨x, y⟩, z⟩ := e trivial; exact ⟨a, b, c, d, x, y, z⟩
theorem one_pos (W : PW) (n : Nat) (h : ∀ i, i < n → oneB W i = true) : ∀ i, i < n → 1 ≤ (tAt W.L i).hash := by
  intro i
  induction i with
  | zero => intro hi; have := ((one_iff W 0).1 (h 0 hi)).1; have e : prevH W.L 0 = 0 := rfl; omega
  | succ i ih =>
    intro hi
    have a := ((one_iff W (i + 1)).1 (h _ hi)).1
    have b := ih (by omega)
    rw [prevH_succ] at a
    omega
theorem things_iff (W : PW) : ((∀ i, i < W.L.length → refT W i = true) ∧ ∀ i, i < 23 → rspecB W i = true) ↔ (23 ≤ W.L.length → (∀ i, i < W.L.length → oneB W i = true) ∧ (∀ i, i < 23 → spec1B W i = true)) ∧ (23 ≤ W.L.length ∨ ((∀ i, i < W.L.length → refT W i = true) ∧ ∀ i, i < 23 → rspecB W i = true)) := by
  constructor
  · rintro ⟨h1, h2⟩
    refine ⟨fun hn => ⟨fun i hi => ?_, fun i hi => ?_⟩, .inr ⟨h1, h2⟩⟩
    · obtain ⟨a, b, c, d, e⟩ := (refT_iff W i).1 (h1 i hi)
      refine (one_iff W i).2 ⟨?_, b.2, a, d, e, fun hl => ?_⟩
      · rcases c with c | c
        · subst c; have q : prevH W.L 0 = 0 := rfl; omega
        · exact c
      · rcases Nat.lt_or_ge i 23 with q | q
        · have r := h2 i q
          unfold rspecB at r
          rw [hl] at r; cases r
        · exact q
    · have r := h2 i hi
      unfold rspecB at r
      rw [Bool.and_eq_true] at r
      exact r.2
  · rintro ⟨h, hn | hn⟩
    · obtain ⟨h1, h2⟩ := h hn
      have hp := one_pos W W.L.length h1
      refine ⟨fun i hi => ?_, fun i hi => ?_⟩
      · obtain ⟨a, b, c, d, e, f⟩ := (one_iff W i).1 (h1 i hi)
        exact (refT_iff W i).2 ⟨c, ⟨hp i hi, b⟩, .inr a, d, e⟩
      · obtain ⟨a, b, c, d, e, f⟩ := (one_iff W i).1 (h1 i (by omega))
        unfold rspecB
        rw [h2 i hi, Bool.and_true]
        cases hl : liveB W i with
        | true => rfl
        | false => have := f hl; omega
    · exact hn
theorem unl_once (W : PW) (l : List Int) (h : thereL W l = true) : allTo (unlB W.L.length l) l.length = onceB l := by
  unfold thereL at h
  have h := (allTo_iff _ _).1 h
  rw [Bool.eq_iff_iff]
  unfold onceB
  rw [allTo_iff, allTo_iff]
  have e : ∀ j, j < l.length → unlB W.L.length l j = !(l.take j).contains (l.getD j 0) := fun j hj => by
    unfold unlB
    have q := there_in (h j hj)
    rw [decide_eq_true q, Bool.true_and]
  constructor
  · intro g i hi; rw [← e i hi]; exact g i hi
  · intro g i hi; rw [e i hi]; exact g i hi
theorem live_there (W : PW) (h0 : liveB W 0 = true) (p : Int) : liveB W p = (decide (p = 0) || thereB W p) := by
  unfold thereB
  by_cases h : p = 0
  · subst h; rw [h0]; simp
  · rw [decide_eq_false h]; simp
theorem regs_iff (W : PW) (h0 : liveB W 0 = true) : regR W = regsB W := by
  unfold regR tailC tailR regsB
  rw [live_there W h0 W.R.proc, live_there W h0 W.R.frame]
  cases h : thereL W W.R.due with
  | false => simp
  | true =>
    rw [unl_once W _ h]
    rw [Bool.eq_iff_iff]
    simp only [Bool.and_eq_true, decide_eq_true_eq, true_and]
    constructor
    · rintro ⟨a, b, c, d, ⟨e, f⟩, g, i, j, k, l, m, n, o, p, q⟩
      simp_all
      omega
    · intro hh
      simp_all
      omega
theorem ref_chk (W : PW) : refChk W = checkB W := by
  unfold refChk checkB
  by_cases hn : 23 ≤ W.L.length ∧ W.L.length ≤ 3000
  · rw [decide_eq_true hn, Bool.true_and, Bool.true_and]
    congr 1
    have TI := things_iff W
    obtain ⟨k, hk⟩ : ∃ k, W.L.length = k + 1 := ⟨W.L.length - 1, by omega⟩
    have hp : prevH W.L W.L.length = (tAt W.L (W.L.length - 1)).hash := by rw [hk]; rfl
    rw [Bool.eq_iff_iff]
    unfold thingsB specB
    simp only [Bool.and_eq_true, allTo_iff, decide_eq_true_eq, hp]
    constructor
    · rintro ⟨a, b, c, d, e⟩
      obtain ⟨x, y⟩ := (TI.1 ⟨a, b⟩).1 hn.1
      have l0 : liveB W 0 = true := by
        have r := b 0 (by omega)
        unfold rspecB at r
        rw [Bool.and_eq_true] at r
        exact r.1
      rw [regs_iff W l0] at c
      exact ⟨⟨x, d, e⟩, y, c⟩
    · rintro ⟨⟨x, d, e⟩, y, c⟩
      obtain ⟨a, b⟩ := TI.2 ⟨fun _ => ⟨x, y⟩, .inl hn.1⟩
      have l0 : liveB W 0 = true := by
        have r := b 0 (by omega)
        unfold rspecB at r
        rw [Bool.and_eq_true] at r
        exact r.1
      rw [← regs_iff W l0] at c
      exact ⟨a, b, c, d, e⟩
  · rw [decide_eq_false hn, Bool.false_and, Bool.false_and]
theorem check7 {w : World} {x : WV} {W : PW} (h : WorldAt w x W) : Calls Try.prog 15 #[.agg (cellsW W x)] w fun e w' => e = .returned (.bool (checkB W)) ∧ Ext w w' := by
  have q := rcheck h
  rw [ref_chk] at q
  exact q
end Go.Proofs.Ytadhkmplhgcgkaa.World
namespace Go.Proofs.Ytadhkmplhgcgkaa.World
open Go.RowKit Go.Proofs.Ytadhkmplhgcgkaa.Plain
set_option linter.unusedVariables false
/-! ### ranks -/
def keptL (l : List Bool) (n : Nat) : List Nat := (List.range n).filter (fun j => sB l j)
theorem kept_succ (l : List Bool) (n : Nat) : keptL l (n + 1) = keptL l n ++ (if sB l n = true then [n] else []) := by
  unfold keptL
  rw [List.range_succ, List.filter_append]
  congr 1
  by_cases h : sB l n = true
  · rw [if_pos h, List.filter_cons_of_pos h]; rfl
  · rw [if_neg h, List.filter_cons_of_neg h]; rfl
theorem kept_len (l : List Bool) : ∀ n, n ≤ l.length → (keptL l n).length = rankL l n := by
  intro n
  induction n with
  | zero => intro _; rfl
  | succ n ih =>
    intro hn
    rw [kept_succ, List.length_append, ih (by omega), rankL_succ l n (by omega)]
    split <;> rfl
theorem kept_at (l : List Bool) : ∀ n, n ≤ l.length → ∀ i, i < n → sB l i = true → rankL l i < rankL l n ∧ (keptL l n).getD (rankL l i) 0 = i := by
  intro n
  induction n with
  | zero => intro _ i hi; omega
  | succ n ih =>
    intro hn i hi hs
    rw [rankL_succ l n (by omega), kept_succ]
    by_cases e : i = n
    · subst e
      rw [if_pos hs, if_pos hs]
      refine ⟨by omega, ?_⟩
      rw [List.getD_eq_getElem?_getD, List.getElem?_append_right (by rw [kept_len l i (by omega)]; exact Nat.le_refl _), kept_len l i (by omega)]
      simp
    · obtain ⟨h1, h2⟩ := ih (by omega) i (by omega) hs
      refine ⟨by omega, ?_⟩
      rw [List.getD_eq_getElem?_getD] at h2 ⊢
      rw [List.getElem?_append_left (by rw [kept_len l n (by omega)]; exact h1)]
      exact h2
theorem kept_mem (l : List Bool) : ∀ n, n ≤ l.length → ∀ q, q < rankL l n → ∃ i, i < n ∧ sB l i = true ∧ rankL l i = q := by
  intro n
  induction n with
  | zero => intro _ q hq; exact absurd hq (by rw [rankL_0]; omega)
  | succ n ih =>
    intro hn q hq
    rw [rankL_succ l n (by omega)] at hq
    by_cases h : q < rankL l n
    · obtain ⟨i, h1, h2, h3⟩ := ih (by omega) q h
      exact ⟨i, by omega, h2, h3⟩
    · by_cases hs : sB l n = true
      · rw [if_pos hs] at hq
        exact ⟨n, by omega, hs, by omega⟩
      · rw [if_neg hs] at hq; omega
theorem rank_mono (l : List Bool) (i : Nat) : ∀ j, i ≤ j → j ≤ l.length → rankL l i ≤ rankL l j := by
  intro j
  induction j with
  | zero =>
    intro h _
    have e : i = 0 := by omega
    subst e
    exact Nat.le_refl _
  | succ j ih =>
    intro h hj
    by_cases e : i = j + 1
    · subst e; exact Nat.le_refl _
    · have := ih (by omega) (by omega)
      rw [rankL_succ l j (by omega)]
      omega
theorem rank_lt (l : List Bool) {i j : Nat} (h : i < j) (hj : j ≤ l.length) (hs : sB l i = true) : rankL l i < rankL l j := by
  have a := rank_mono l (i + 1) j h hj
  rw [rankL_succ l i (by omega), if_pos hs] at a
  omega
theorem rank_inj (l : List Bool) {i j : Nat} (hi : sB l i = true) (hj : sB l j = true) (e : rankL l i = rankL l j) : i = j := by
  rcases Nat.lt_trichotomy i j with h | h | h
  · have := rank_lt l h (Nat.le_of_lt (sB_lt hj)) hi; omega
  · exact h
  · have := rank_lt l h (Nat.le_of_lt (sB_lt hi)) hj; omega
theorem rank_first (l : List Bool) (h : ∀ i, i < 23 → sB l i = true) : ∀ i, i ≤ 23 → rankL l i = i := by
  intro i
  induction i with
  | zero => intro _; rfl
  | succ i ih =>
    intro hi
    rw [rankL_succ l i (sB_lt (h i (by omega))), ih (by omega), if_pos (h i (by omega))]
theorem fA_rank (l : List Bool) (n : Int) (h0 : 0 ≤ n) (hs : sB l n.toNat = true) : fA (atL l) n = (rankL l n.toNat : Int) := by
  have hl := sB_lt hs
  unfold fA atL atK
  rw [List.getD_eq_getElem?_getD, List.getElem?_map, List.getElem?_range hl]
  show (if n.toNat < l.length ∧ sB l n.toNat = true then (rankL l n.toNat : Int) else 0) = _
  rw [if_pos ⟨hl, hs⟩]
/-! ### what is come to is alive -/
theorem live_range {W : PW} {i : Int} (h : liveB W i = true) : 0 ≤ i ∧ i < W.L.length := by
  unfold liveB at h
  rw [Bool.and_eq_true] at h
  exact of_decide_eq_true h.1
theorem check_one {W : PW} (h : checkB W = true) {i : Nat} (hi : i < W.L.length) : oneB W i = true := by
  unfold checkB at h
  simp only [Bool.and_eq_true] at h
  have hT := h.2.2.1
  unfold thingsB at hT
  rw [Bool.and_eq_true] at hT
  exact (allTo_iff _ _).1 hT.1 i hi
theorem root_live {W : PW} (h : checkB W = true) : ∀ r ∈ rootsOf W.R, liveB W r = true := by
  have hl := check_len h
  have hg := check_regs h
  unfold regsB at hg
  simp only [Bool.and_eq_true, Bool.or_eq_true, decide_eq_true_eq] at hg
  obtain ⟨g1, g2, g3, g4, _, g6, _⟩ := hg
  have A : ∀ y ∈ listOf W.R, y = 0 ∨ thereB W y = true := listOf_all (P := fun y => y = 0 ∨ thereB W y = true) g1 g2 (fun y hy => .inr (thereL_all g3 y hy)) (fun p hp => by
    unfold waitB at g6
    obtain ⟨q, hq, hqv⟩ := List.mem_iff_getElem.1 hp
    have f := (allTo_iff _ _).1 g6 q hq
    unfold wAt at f
    rw [List.getD_eq_getElem?_getD, List.getElem?_eq_getElem hq, hqv] at f
    rw [Bool.and_eq_true] at f
    exact ⟨.inr f.1, .inr f.2⟩) (fun y hy => .inr (thereL_all g4 y hy))
  have first : ∀ i : Nat, i < 23 → liveB W i = true := fun i hi => by
    obtain ⟨_, _, _, _, _, f⟩ := (one_iff W i).1 (check_one h (by omega))
    cases hv : liveB W i with
    | true => rfl
    | false => have := f hv; omega
  intro r hr
  unfold rootsOf at hr
  rcases List.mem_append.1 hr with q | q
  · unfold upTo at q
    obtain ⟨k, hk, rfl⟩ := List.mem_map.1 q
    exact first k (List.mem_range.1 hk)
  · obtain ⟨q1, q2⟩ := List.mem_filter.1 q
    have q2 := of_decide_eq_true q2
    rcases A r q1 with e | e
    · omega
    · unfold thereB at e
      rw [Bool.and_eq_true] at e
      exact e.2
theorem next_live {W : PW} (h : checkB W = true) {weak : Bool} {i : Nat} (hi : i < W.L.length) (hl : liveB W i = true) : ∀ j ∈ nxW W weak i, liveB W j = true := by
  obtain ⟨_, _, _, _, e, _⟩ := (one_iff W i).1 (check_one h hi)
  obtain ⟨e1, e2⟩ := e hl
  unfold classB at e1
  rw [Bool.and_eq_true] at e1
  intro j hj
  unfold nxW nextsOf at hj
  rcases List.mem_cons.1 hj with q | q
  · subst q; exact e1.1
  · by_cases g : goesOn weak (tAt W.L i) = true
    · rw [if_pos g] at q
      unfold objsOf at q
      obtain ⟨v, hv, rfl⟩ := List.mem_map.1 q
      obtain ⟨hv1, hv2⟩ := List.mem_filter.1 hv
      obtain ⟨p, hp, hpv⟩ := List.mem_iff_getElem.1 hv1
      unfold liveF at e2
      have f := (allTo_iff _ _).1 e2 p hp
      have ev : vAt (tAt W.L i).F p = v := by unfold vAt; rw [List.getD_eq_getElem?_getD, List.getElem?_eq_getElem hp, hpv]; rfl
      rw [ev, hv2] at f
      simpa using f
    · rw [if_neg g] at q; cases q
theorem rch_live {W : PW} (h : checkB W = true) {weak : Bool} {i : Nat} (hr : Rch (nxW W weak) (rootsOf W.R) i) : liveB W i = true := by
  induction hr with
  | @root r hm =>
    have a := root_live h r hm
    have b := live_range a
    rw [Int.toNat_of_nonneg b.1]; exact a
  | @step i j hr hj ih =>
    have a := next_live h (rch_lt h hr) ih j hj
    have b := live_range a
    rw [Int.toNat_of_nonneg b.1]; exact a
/-- what is come to without weak things' fields is come to -/
theorem rch_weak {W : PW} {i : Nat} (hr : Rch (nxW W false) (rootsOf W.R) i) : Rch (nxW W true) (rootsOf W.R) i := by
  induction hr with
  | root hm => exact .root hm
  | @step i j hr hj ih =>
    refine .step ih ?_
    unfold nxW nextsOf at hj ⊢
    rcases List.mem_cons.1 hj with q | q
    · rw [q]; exact List.mem_cons_self
    · by_cases g : goesOn false (tAt W.L i) = true
      · rw [if_pos g] at q
        have g2 : goesOn true (tAt W.L i) = true := by
          unfold goesOn at g ⊢
          simp only [Bool.and_false, Bool.or_false] at g
          rw [g]; rfl
        rw [if_pos g2]
        exact List.mem_cons_of_mem _ q
      · rw [if_neg g] at q; cases q
end Go.Proofs.Ytadhkmplhgcgkaa.World
namespace Go.Proofs.Ytadhkmplhgcgkaa.World
open Go.RowKit Go.Proofs.Ytadhkmplhgcgkaa.Plain
set_option linter.unusedVariables false
section
variable {W : PW} {l : List Bool}
structure CanW (W : PW) (l : List Bool) : Prop where
  chk : checkB W = true
  rch : RchL W.L.length (nxW W true) (rootsOf W.R) l
theorem CanW.len (h : CanW W l) : l.length = W.L.length := h.rch.1
theorem CanW.sb (h : CanW W l) {i : Nat} (hr : Rch (nxW W true) (rootsOf W.R) i) : sB l i = true := (h.rch.2 i).2 hr
theorem CanW.first (h : CanW W l) : ∀ i, i < 23 → sB l i = true := fun i hi => h.sb (rch_root hi)
theorem CanW.next (h : CanW W l) {i : Nat} (hs : sB l i = true) {j : Int} (hj : j ∈ nxW W true i) : 0 ≤ j ∧ sB l j.toNat = true :=
  ⟨(nexts_in h.chk (by have := sB_lt hs; rw [h.len] at this; exact this) j hj).1, h.sb (.step ((h.rch.2 i).1 hs) hj)⟩
theorem CanW.live (h : CanW W l) {i : Nat} (hs : sB l i = true) : liveB W i = true := rch_live h.chk ((h.rch.2 i).1 hs)
/-- how many are kept -/
def cnt (W : PW) (l : List Bool) : Nat := rankL l W.L.length
theorem canL_kept (h : CanW W l) : (canonW W l).L = (keptL l W.L.length).map (fun j => canT (atL l) (tAt W.L j)) := rfl
theorem CanW.clen (h : CanW W l) : (canonW W l).L.length = cnt W l := by
  rw [canL_kept h, List.length_map, kept_len l _ (by rw [h.len]; exact Nat.le_refl _)]; rfl
theorem CanW.at_ (h : CanW W l) {i : Nat} (hs : sB l i = true) : tAt (canonW W l).L (rankL l i) = canT (atL l) (tAt W.L i) := by
  have hi := sB_lt hs
  rw [h.len] at hi
  obtain ⟨a, b⟩ := kept_at l W.L.length (by rw [h.len]; exact Nat.le_refl _) i hi hs
  have hk := kept_len l W.L.length (by rw [h.len]; exact Nat.le_refl _)
  rw [canL_kept h]
  unfold tAt
  rw [List.getD_eq_getElem?_getD, List.getElem?_map, List.getElem?_eq_getElem (by rw [hk]; exact a)]
  rw [List.getD_eq_getElem?_getD, List.getElem?_eq_getElem (by rw [hk]; exact a)] at b
  show canT _ (tAt W.L _) = _
  have b : (keptL l W.L.length)[rankL l i]'(by rw [hk]; exact a) = i := b
  rw [b]; rfl
theorem CanW.some (h : CanW W l) {q : Nat} (hq : q < cnt W l) : ∃ i, i < W.L.length ∧ sB l i = true ∧ rankL l i = q := kept_mem l W.L.length (by rw [h.len]; exact Nat.le_refl _) q hq
theorem CanW.rank_in (h : CanW W l) {i : Nat} (hs : sB l i = true) : rankL l i < cnt W l := rank_lt l (by have := sB_lt hs; rw [h.len] at this; exact this) (by rw [h.len]; exact Nat.le_refl _) hs
theorem CanW.fa (h : CanW W l) {n : Int} (h0 : 0 ≤ n) (hs : sB l n.toNat = true) : 0 ≤ fA (atL l) n ∧ fA (atL l) n < (cnt W l : Int) := by
  rw [fA_rank l n h0 hs]
  have := h.rank_in hs
  omega
theorem CanW.c23 (h : CanW W l) : 23 ≤ cnt W l ∧ cnt W l ≤ W.L.length := by
  have hl := check_len h.chk
  have a := rank_mono l 23 W.L.length hl.1 (by rw [h.len]; exact Nat.le_refl _)
  rw [rank_first l h.first 23 (Nat.le_refl _)] at a
  exact ⟨a, rankL_le l _⟩
/-- hashes rise -/
theorem hash_lt (h : checkB W = true) : ∀ j, j < W.L.length → ∀ i, i < j → (tAt W.L i).hash < (tAt W.L j).hash := by
  intro j
  induction j with
  | zero => intro _ i hi; omega
  | succ j ih =>
    intro hj i hi
    have a := ((one_iff W (j + 1)).1 (check_one h hj)).1
    rw [prevH_succ] at a
    by_cases e : i = j
    · subst e; exact a
    · have := ih (by omega) i (by omega); omega
theorem hash_last (h : checkB W = true) : ∀ i, i < W.L.length → (tAt W.L i).hash ≤ W.last ∧ W.last ≤ 3000 := by
  intro i hi
  have hh := h
  unfold checkB at hh
  simp only [Bool.and_eq_true] at hh
  have hT := hh.2.2.1
  unfold thingsB at hT
  simp only [Bool.and_eq_true, decide_eq_true_eq] at hT
  obtain ⟨_, h1, h2⟩ := hT
  obtain ⟨k, hk⟩ : ∃ k, W.L.length = k + 1 := ⟨W.L.length - 1, by omega⟩
  rw [hk, prevH_succ] at h1
  refine ⟨?_, h2⟩
  by_cases e : i = k
  · subst e; exact h1
  · have := hash_lt h k (by omega) i (by omega); omega
end
end Go.Proofs.Ytadhkmplhgcgkaa.World
namespace Go.Proofs.Ytadhkmplhgcgkaa.World
open Go.RowKit Go.Proofs.Ytadhkmplhgcgkaa.Plain
set_option linter.unusedVariables false
theorem vAt_map (F : List PV) (f : PV → PV) (j : Nat) (hj : j < F.length) : vAt (F.map f) j = f (vAt F j) := by
  unfold vAt
  rw [List.getD_eq_getElem?_getD, List.getElem?_map, List.getD_eq_getElem?_getD, List.getElem?_eq_getElem hj]; rfl
theorem canV_num (a : List Int) (v : PV) (lo hi : Int) : numB (canV a v) lo hi = numB v lo hi := by
  unfold canV numB
  by_cases h : v.obj = true
  · rw [if_pos h]; simp [h]
  · rw [if_neg h]
theorem can_cls (a : List Int) (t : PT) : isClsB (canT a t) = isClsB t := by
  unfold isClsB
  show (decide (t.fmt = 1) && (decide (5 ≤ (t.F.map (canV a)).length) && (numB (vAt (t.F.map (canV a)) 3) 0 60 && numB (vAt (t.F.map (canV a)) 4) 1 3))) = _
  rw [List.length_map]
  by_cases h : 5 ≤ t.F.length
  · rw [vAt_map _ _ 3 (by omega), vAt_map _ _ 4 (by omega), canV_num, canV_num]
  · rw [decide_eq_false h]; simp
theorem mem_objs {F : List PV} {p : Nat} (hp : p < F.length) (ho : (vAt F p).obj = true) : (vAt F p).n ∈ objsOf F := by
  unfold objsOf
  have e : vAt F p = F[p] := by unfold vAt; rw [List.getD_eq_getElem?_getD, List.getElem?_eq_getElem hp]; rfl
  rw [e] at ho ⊢
  exact List.mem_map.2 ⟨F[p], List.mem_filter.2 ⟨List.getElem_mem hp, ho⟩, rfl⟩
section
variable {W : PW} {l : List Bool}
theorem CanW.cls (h : CanW W l) {i : Nat} (hs : sB l i = true) : 0 ≤ (tAt W.L i).cls ∧ sB l (tAt W.L i).cls.toNat = true :=
  h.next hs (by unfold nxW nextsOf; exact List.mem_cons_self)
theorem CanW.fld (h : CanW W l) {i : Nat} (hs : sB l i = true) {p : Nat} (hp : p < (tAt W.L i).F.length) (ho : (vAt (tAt W.L i).F p).obj = true) : 0 ≤ (vAt (tAt W.L i).F p).n ∧ sB l (vAt (tAt W.L i).F p).n.toNat = true := by
  have hi := sB_lt hs
  rw [h.len] at hi
  have hsh := (check_thing h.chk hi).2
  refine h.next hs ?_
  unfold nxW nextsOf
  have g : goesOn true (tAt W.L i) = true := by
    unfold goesOn
    unfold shapeB at hsh
    by_cases f3 : (tAt W.L i).fmt = 3
    · rw [if_pos f3, Bool.and_eq_true, decide_eq_true_eq] at hsh
      omega
    · rw [if_neg f3] at hsh
      by_cases f12 : (tAt W.L i).fmt = 1 ∨ (tAt W.L i).fmt = 2
      · rcases f12 with f | f <;> rw [f] <;> rfl
      · rw [if_neg f12] at hsh; cases hsh
  rw [if_pos g]
  exact List.mem_cons_of_mem _ (mem_objs hp ho)
theorem can_shape (h : CanW W l) {i : Nat} (hs : sB l i = true) : shapeB (cnt W l) (canT (atL l) (tAt W.L i)) = true := by
  have hi := sB_lt hs
  rw [h.len] at hi
  have hsh := (check_thing h.chk hi).2
  unfold shapeB at hsh ⊢
  show (if (tAt W.L i).fmt = 3 then decide (((tAt W.L i).F.map (canV (atL l))).length = 0) && decide ((tAt W.L i).B.size ≤ 200)
    else if (tAt W.L i).fmt = 1 ∨ (tAt W.L i).fmt = 2 then decide ((tAt W.L i).B.size = 0) && (decide (((tAt W.L i).F.map (canV (atL l))).length ≤ 60) && fldsB (cnt W l) ((tAt W.L i).F.map (canV (atL l)))) else false) = true
  rw [List.length_map]
  by_cases f3 : (tAt W.L i).fmt = 3
  · rw [if_pos f3] at hsh ⊢; exact hsh
  · rw [if_neg f3] at hsh ⊢
    by_cases f12 : (tAt W.L i).fmt = 1 ∨ (tAt W.L i).fmt = 2
    · rw [if_pos f12] at hsh ⊢
      simp only [Bool.and_eq_true] at hsh ⊢
      refine ⟨hsh.1, hsh.2.1, ?_⟩
      unfold fldsB
      rw [List.length_map, allTo_iff]
      intro p hp
      rw [vAt_map _ _ p hp]
      have f := (allTo_iff _ _).1 (show allTo (fun j => fldB W.L.length (vAt (tAt W.L i).F j)) (tAt W.L i).F.length = true from hsh.2.2) p hp
      unfold canV fldB
      by_cases ho : (vAt (tAt W.L i).F p).obj = true
      · rw [if_pos ho]
        obtain ⟨a, b⟩ := h.fld hs hp ho
        exact decide_eq_true (h.fa a b)
      · rw [if_neg ho, if_neg ho]
        unfold fldB at f
        rw [if_neg ho] at f
        exact f
    · rw [if_neg f12] at hsh; cases hsh
theorem can_live (h : CanW W l) {n : Int} (h0 : 0 ≤ n) (hs : sB l n.toNat = true) : liveB (canonW W l) (fA (atL l) n) = true := by
  rw [live_nil (show (canonW W l).dead = [] from rfl), h.clen]
  exact decide_eq_true (h.fa h0 hs)
theorem can_prev (h : CanW W l) {i : Nat} (hs : sB l i = true) : prevH (canonW W l).L (rankL l i) < (tAt W.L i).hash := by
  have hi := sB_lt hs
  rw [h.len] at hi
  cases hq : rankL l i with
  | zero => exact one_pos W W.L.length (fun j hj => check_one h.chk hj) i hi
  | succ q =>
    rw [prevH_succ]
    obtain ⟨j, hj, hjs, hjr⟩ := h.some (q := q) (by have := h.rank_in hs; omega)
    rw [← hjr, h.at_ hjs]
    show (tAt W.L j).hash < _
    refine hash_lt h.chk i hi j ?_
    rcases Nat.lt_trichotomy j i with z | z | z
    · exact z
    · subst z; omega
    · have := rank_lt l z (by rw [h.len]; omega) hs; omega
theorem can_one (h : CanW W l) {q : Nat} (hq : q < cnt W l) : oneB (canonW W l) q = true := by
  obtain ⟨i, hi, hs, hr⟩ := h.some hq
  subst hr
  obtain ⟨o1, o2, o3, o4, o5, o6⟩ := (one_iff W i).1 (check_one h.chk hi)
  obtain ⟨c0, cs⟩ := h.cls hs
  have hci := sB_lt cs
  rw [h.len] at hci
  rw [one_iff, h.at_ hs]
  refine ⟨can_prev h hs, o2, ?_, by rw [h.clen]; exact can_shape h hs, fun _ => ⟨?_, ?_⟩, fun hl => ?_⟩
  · rw [h.clen]; exact h.fa c0 cs
  · unfold classB
    show (liveB (canonW W l) (fA (atL l) (tAt W.L i).cls) && isClsB (tAt (canonW W l).L (fA (atL l) (tAt W.L i).cls).toNat)) = true
    rw [can_live h c0 cs, fA_rank l _ c0 cs, Int.toNat_natCast, h.at_ cs, can_cls]
    have := (o5 (h.live hs)).1
    unfold classB at this
    rw [Bool.and_eq_true] at this
    rw [this.2]; rfl
  · unfold liveF
    show allTo _ ((tAt W.L i).F.map (canV (atL l))).length = true
    rw [List.length_map, allTo_iff]
    intro p hp
    show (!(vAt ((tAt W.L i).F.map (canV (atL l))) p).obj || liveB (canonW W l) (vAt ((tAt W.L i).F.map (canV (atL l))) p).n) = true
    rw [vAt_map _ _ p hp]
    unfold canV
    by_cases ho : (vAt (tAt W.L i).F p).obj = true
    · rw [if_pos ho]
      obtain ⟨a, b⟩ := h.fld hs hp ho
      show (!true || liveB _ (fA (atL l) _)) = true
      rw [can_live h a b]; rfl
    · rw [if_neg ho]
      simp only [Bool.not_eq_true] at ho
      rw [ho]; rfl
  · have : liveB (canonW W l) ((rankL l i : Nat) : Int) = true := by
      rw [live_nil (show (canonW W l).dead = [] from rfl), h.clen]
      exact decide_eq_true ⟨by omega, by have := h.rank_in hs; omega⟩
    rw [this] at hl; cases hl
end
end Go.Proofs.Ytadhkmplhgcgkaa.World
