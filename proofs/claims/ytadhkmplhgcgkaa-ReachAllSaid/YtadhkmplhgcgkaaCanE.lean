/-
  CanonPlain, CanonPlain2, CanonPlain3, CanonPlain4, CanonPlain5, CanonPlain6, RefCanonPlain, as one text (a claim has at most 60 files).
-/
import Derived.Test.YtadhkmplhgcgkaaReach11
import Derived.Test.YtadhkmplhgcgkaaAwake8
import Derived.Test.YtadhkmplhgcgkaaRefPlain
namespace Go.Proofs.Ytadhkmplhgcgkaa.World
open Go.RowKit Go.Proofs.Ytadhkmplhgcgkaa.Plain
set_option linter.unusedVariables false
/-! ### ranks -/
def keptL (l : List Bool) (n : Nat) : List Nat := (List.range n).filter (fun j => sB l j)
theorem kept_succ (l : List Bool) (n : Nat) : keptL l (n + 1) = keptL l n ++ (if sB l n = true then [n] else []) := by
  unfold keptL
  rw [List.range_succ, List.filter_append]
  congr 1
  by_cases h : sB l n = true
  · rw [if_pos h, List.filter_cons_of_pos h]; rfl
  · rw [if_neg h, List.filter_cons_of_neg h]; rfl
theorem kept_len (l : List Bool) : ∀ n, n ≤ l.length → (keptL l n).length = rankL l n := by
  intro n
  induction n with
  | zero => intro _; rfl
  | succ n ih =>
    intro hn
    rw [kept_succ, List.length_append, ih (by omega), rankL_succ l n (by omega)]
    split <;> rfl
theorem kept_at (l : List Bool) : ∀ n, n ≤ l.length → ∀ i, i < n → sB l i = true → rankL l i < rankL l n ∧ (keptL l n).getD (rankL l i) 0 = i := by
  intro n
  induction n with
  | zero => intro _ i hi; omega
  | succ n ih =>
    intro hn i hi hs
    rw [rankL_succ l n (by omega), kept_succ]
    by_cases e : i = n
    · subst e
      rw [if_pos hs, if_pos hs]
      refine ⟨by omega, ?_⟩
      rw [List.getD_eq_getElem?_getD, List.getElem?_append_right (by rw [kept_len l i (by omega)]; exact Nat.le_refl _), kept_len l i (by omega)]
      simp
    · obtain ⟨h1, h2⟩ := ih (by omega) i (by omega) hs
      refine ⟨by omega, ?_⟩
      rw [List.getD_eq_getElem?_getD] at h2 ⊢
      rw [List.getElem?_append_left (by rw [kept_len l n (by omega)]; exact h1)]
      exact h2
theorem kept_mem (l : List Bool) : ∀ n, n ≤ l.length → ∀ q, q < rankL l n → ∃ i, i < n ∧ sB l i = true ∧ rankL l i = q := by
  intro n
  induction n with
  | zero => intro _ q hq; exact absurd hq (by rw [rankL_0]; omega)
  | succ n ih =>
    intro hn q hq
    rw [rankL_succ l n (by omega)] at hq
    by_cases h : q < rankL l n
    · obtain ⟨i, h1, h2, h3⟩ := ih (by omega) q h
      exact ⟨i, by omega, h2, h3⟩
    · by_cases hs : sB l n = true
      · rw [if_pos hs] at hq
        exact ⟨n, by omega, hs, by omega⟩
      · rw [if_neg hs] at hq; omega
theorem rank_mono (l : List Bool) (i : Nat) : ∀ j, i ≤ j → j ≤ l.length → rankL l i ≤ rankL l j := by
  intro j
  induction j with
  | zero =>
    intro h _
    have e : i = 0 := by omega
    subst e
    exact Nat.le_refl _
  | succ j ih =>
    intro h hj
    by_cases e : i = j + 1
    · subst e; exact Nat.le_refl _
    · have := ih (by omega) (by omega)
      rw [rankL_succ l j (by omega)]
      omega
theorem rank_lt (l : List Bool) {i j : Nat} (h : i < j) (hj : j ≤ l.length) (hs : sB l i = true) : rankL l i < rankL l j := by
  have a := rank_mono l (i + 1) j h hj
  rw [rankL_succ l i (by omega), if_pos hs] at a
  omega
theorem rank_inj (l : List Bool) {i j : Nat} (hi : sB l i = true) (hj : sB l j = true) (e : rankL l i = rankL l j) : i = j := by
  rcases Nat.lt_trichotomy i j with h | h | h
  · have := rank_lt l h (Nat.le_of_lt (sB_lt hj)) hi; omega
  · exact h
  · have := rank_lt l h (Nat.le_of_lt (sB_lt hi)) hj; omega
theorem rank_first (l : List Bool) (h : ∀ i, i < 23 → sB l i = true) : ∀ i, i ≤ 23 → rankL l i = i := by
  intro i
  induction i with
  | zero => intro _; rfl
  | succ i ih =>
    intro hi
    rw [rankL_succ l i (sB_lt (h i (by omega))), ih (by omega), if_pos (h i (by omega))]
theorem fA_rank (l : List Bool) (n : Int) (h0 : 0 ≤ n) (hs : sB l n.toNat = true) : fA (atL l) n = (rankL l n.toNat : Int) := by
  have hl := sB_lt hs
  unfold fA atL atK
  rw [List.getD_eq_getElem?_getD, List.getElem?_map, List.getElem?_range hl]
  show (if n.toNat < l.length ∧ sB l n.toNat = true then (rankL l n.toNat : Int) else 0) = _
  rw [if_pos ⟨hl, hs⟩]
/-! ### what is come to is alive -/
theorem live_range {W : PW} {i : Int} (h : liveB W i = true) : 0 ≤ i ∧ i < W.L.length := by
  unfold liveB at h
  rw [Bool.and_eq_true] at h
  exact of_decide_eq_true h.1
theorem check_one {W : PW} (h : checkB W = true) {i : Nat} (hi : i < W.L.length) : oneB W i = true := by
  unfold checkB at h
  simp only [Bool.and_eq_true] at h
  have hT := h.2.2.1
  unfold thingsB at hT
  rw [Bool.and_eq_true] at hT
  exact (allTo_iff _ _).1 hT.1 i hi
theorem root_live {W : PW} (h : checkB W = true) : ∀ r ∈ rootsOf W.R, liveB W r = true := by
  have hl := check_len h
  have hg := check_regs h
  unfold regsB at hg
  simp only [Bool.and_eq_true, Bool.or_eq_true, decide_eq_true_eq] at hg
  obtain ⟨g1, g2, g3, g4, _, g6, _⟩ := hg
  have A : ∀ y ∈ listOf W.R, y = 0 ∨ thereB W y = true := listOf_all (P := fun y => y = 0 ∨ thereB W y = true) g1 g2 (fun y hy => .inr (thereL_all g3 y hy)) (fun p hp => by
    unfold waitB at g6
    obtain ⟨q, hq, hqv⟩ := List.mem_iff_getElem.1 hp
    have f := (allTo_iff _ _).1 g6 q hq
    unfold wAt at f
    rw [List.getD_eq_getElem?_getD, List.getElem?_eq_getElem hq, hqv] at f
    rw [Bool.and_eq_true] at f
    exact ⟨.inr f.1, .inr f.2⟩) (fun y hy => .inr (thereL_all g4 y hy))
  have first : ∀ i : Nat, i < 23 → liveB W i = true := fun i hi => by
    obtain ⟨_, _, _, _, _, f⟩ := (one_iff W i).1 (check_one h (by omega))
    cases hv : liveB W i with
    | true => rfl
    | false => have := f hv; omega
  intro r hr
  unfold rootsOf at hr
  rcases List.mem_append.1 hr with q | q
  · unfold upTo at q
    obtain ⟨k, hk, rfl⟩ := List.mem_map.1 q
    exact first k (List.mem_range.1 hk)
  · obtain ⟨q1, q2⟩ := List.mem_filter.1 q
    have q2 := of_decide_eq_true q2
    rcases A r q1 with e | e
    · omega
    · unfold thereB at e
      rw [Bool.and_eq_true] at e
      exact e.2
theorem next_live {W : PW} (h : checkB W = true) {weak : Bool} {i : Nat} (hi : i < W.L.length) (hl : liveB W i = true) : ∀ j ∈ nxW W weak i, liveB W j = true := by
  obtain ⟨_, _, _, _, e, _⟩ := (one_iff W i).1 (check_one h hi)
  obtain ⟨e1, e2⟩ := e hl
  unfold classB at e1
  rw [Bool.and_eq_true] at e1
  intro j hj
  unfold nxW nextsOf at hj
  rcases List.mem_cons.1 hj with q | q
  · subst q; exact e1.1
  · by_cases g : goesOn weak (tAt W.L i) = true
    · rw [if_pos g] at q
      unfold objsOf at q
      obtain ⟨v, hv, rfl⟩ := List.mem_map.1 q
      obtain ⟨hv1, hv2⟩ := List.mem_filter.1 hv
      obtain ⟨p, hp, hpv⟩ := List.mem_iff_getElem.1 hv1
      unfold liveF at e2
      have f := (allTo_iff _ _).1 e2 p hp
      have ev : vAt (tAt W.L i).F p = v := by unfold vAt; rw [List.getD_eq_getElem?_getD, List.getElem?_eq_getElem hp, hpv]; rfl
      rw [ev, hv2] at f
      simpa using f
    · rw [if_neg g] at q; cases q
theorem rch_live {W : PW} (h : checkB W = true) {weak : Bool} {i : Nat} (hr : Rch (nxW W weak) (rootsOf W.R) i) : liveB W i = true := by
  induction hr with
  | @root r hm =>
    have a := root_live h r hm
    have b := live_range a
    rw [Int.toNat_of_nonneg b.1]; exact a
  | @step i j hr hj ih =>
    have a := next_live h (rch_lt h hr) ih j hj
    have b := live_range a
    rw [Int.toNat_of_nonneg b.1]; exact a
/-- what is come to without weak things' fields is come to -/
theorem rch_weak {W : PW} {i : Nat} (hr : Rch (nxW W false) (rootsOf W.R) i) : Rch (nxW W true) (rootsOf W.R) i := by
  induction hr with
  | root hm => exact .root hm
  | @step i j hr hj ih =>
    refine .step ih ?_
    unfold nxW nextsOf at hj ⊢
    rcases List.mem_cons.1 hj with q | q
    · rw [q]; exact List.mem_cons_self
    · by_cases g : goesOn false (tAt W.L i) = true
      · rw [if_pos g] at q
        have g2 : goesOn true (tAt W.L i) = true := by
          unfold goesOn at g ⊢
          simp only [Bool.and_false, Bool.or_false] at g
          rw [g]; rfl
        rw [if_pos g2]
        exact List.mem_cons_of_mem _ q
      · rw [if_neg g] at q; cases q
end Go.Proofs.Ytadhkmplhgcgkaa.World
namespace Go.Proofs.Ytadhkmplhgcgkaa.World
open Go.RowKit Go.Proofs.Ytadhkmplhgcgkaa.Plain
set_option linter.unusedVariables false
section
variable {W : PW} {l : List Bool}
structure CanW (W : PW) (l : List Bool) : Prop where
  chk : checkB W = true
  rch : RchL W.L.length (nxW W true) (rootsOf W.R) l
theorem CanW.len (h : CanW W l) : l.length = W.L.length := h.rch.1
theorem CanW.sb (h : CanW W l) {i : Nat} (hr : Rch (nxW W true) (rootsOf W.R) i) : sB l i = true := (h.rch.2 i).2 hr
theorem CanW.first (h : CanW W l) : ∀ i, i < 23 → sB l i = true := fun i hi => h.sb (rch_root hi)
theorem CanW.next (h : CanW W l) {i : Nat} (hs : sB l i = true) {j : Int} (hj : j ∈ nxW W true i) : 0 ≤ j ∧ sB l j.toNat = true :=
  ⟨(nexts_in h.chk (by have := sB_lt hs; rw [h.len] at this; exact this) j hj).1, h.sb (.step ((h.rch.2 i).1 hs) hj)⟩
theorem CanW.live (h : CanW W l) {i : Nat} (hs : sB l i = true) : liveB W i = true := rch_live h.chk ((h.rch.2 i).1 hs)
/-- how many are kept -/
def cnt (W : PW) (l : List Bool) : Nat := rankL l W.L.length
theorem canL_kept (h : CanW W l) : (canonW W l).L = (keptL l W.L.length).map (fun j => canT (atL l) (tAt W.L j)) := rfl
theorem CanW.clen (h : CanW W l) : (canonW W l).L.length = cnt W l := by
  rw [canL_kept h, List.length_map, kept_len l _ (by rw [h.len]; exact Nat.le_refl _)]; rfl
theorem CanW.at_ (h : CanW W l) {i : Nat} (hs : sB l i = true) : tAt (canonW W l).L (rankL l i) = canT (atL l) (tAt W.L i) := by
  have hi := sB_lt hs
  rw [h.len] at hi
  obtain ⟨a, b⟩ := kept_at l W.L.length (by rw [h.len]; exact Nat.le_refl _) i hi hs
  have hk := kept_len l W.L.length (by rw [h.len]; exact Nat.le_refl _)
  rw [canL_kept h]
  unfold tAt
  rw [List.getD_eq_getElem?_getD, List.getElem?_map, List.getElem?_eq_getElem (by rw [hk]; exact a)]
  rw [List.getD_eq_getElem?_getD, List.getElem?_eq_getElem (by rw [hk]; exact a)] at b
  show canT _ (tAt W.L _) = _
  have b : (keptL l W.L.length)[rankL l i]'(by rw [hk]; exact a) = i := b
  rw [b]; rfl
theorem CanW.some (h : CanW W l) {q : Nat} (hq : q < cnt W l) : ∃ i, i < W.L.length ∧ sB l i = true ∧ rankL l i = q := kept_mem l W.L.length (by rw [h.len]; exact Nat.le_refl _) q hq
theorem CanW.rank_in (h : CanW W l) {i : Nat} (hs : sB l i = true) : rankL l i < cnt W l := rank_lt l (by have := sB_lt hs; rw [h.len] at this; exact this) (by rw [h.len]; exact Nat.le_refl _) hs
theorem CanW.fa (h : CanW W l) {n : Int} (h0 : 0 ≤ n) (hs : sB l n.toNat = true) : 0 ≤ fA (atL l) n ∧ fA (atL l) n < (cnt W l : Int) := by
  rw [fA_rank l n h0 hs]
  have := h.rank_in hs
  omega
theorem CanW.c23 (h : CanW W l) : 23 ≤ cnt W l ∧ cnt W l ≤ W.L.length := by
  have hl := check_len h.chk
  have a := rank_mono l 23 W.L.length hl.1 (by rw [h.len]; exact Nat.le_refl _)
  rw [rank_first l h.first 23 (Nat.le_refl _)] at a
  exact ⟨a, rankL_le l _⟩
/-- hashes rise -/
theorem hash_lt (h : checkB W = true) : ∀ j, j < W.L.length → ∀ i, i < j → (tAt W.L i).hash < (tAt W.L j).hash := by
  intro j
  induction j with
  | zero => intro _ i hi; omega
  | succ j ih =>
    intro hj i hi
    have a := ((one_iff W (j + 1)).1 (check_one h hj)).1
    rw [prevH_succ] at a
    by_cases e : i = j
    · subst e; exact a
    · have := ih (by omega) i (by omega); omega
theorem hash_last (h : checkB W = true) : ∀ i, i < W.L.length → (tAt W.L i).hash ≤ W.last ∧ W.last ≤ 3000 := by
  intro i hi
  have hh := h
  unfold checkB at hh
  simp only [Bool.and_eq_true] at hh
  have hT := hh.2.2.1
  unfold thingsB at hT
  simp only [Bool.and_eq_true, decide_eq_true_eq] at hT
  obtain ⟨_, h1, h2⟩ := hT
  obtain ⟨k, hk⟩ : ∃ k, W.L.length = k + 1 := ⟨W.L.length - 1, by omega⟩
  rw [hk, prevH_succ] at h1
  refine ⟨?_, h2⟩
  by_cases e : i = k
  · subst e; exact h1
  · have := hash_lt h k (by omega) i (by omega); omega
end
end Go.Proofs.Ytadhkmplhgcgkaa.World
namespace Go.Proofs.Ytadhkmplhgcgkaa.World
open Go.RowKit Go.Proofs.Ytadhkmplhgcgkaa.Plain
set_option linter.unusedVariables false
theorem vAt_map (F : List PV) (f : PV → PV) (j : Nat) (hj : j < F.length) : vAt (F.map f) j = f (vAt F j) := by
  unfold vAt
  rw [List.getD_eq_getElem?_getD, List.getElem?_map, List.getD_eq_getElem?_getD, List.getElem?_eq_getElem hj]; rfl
theorem canV_num (a : List Int) (v : PV) (lo hi : Int) : numB (canV a v) lo hi = numB v lo hi := by
  unfold canV numB
  by_cases h : v.obj = true
  · rw [if_pos h]; simp [h]
  · rw [if_neg h]
theorem can_cls (a : List Int) (t : PT) : isClsB (canT a t) = isClsB t := by
  unfold isClsB
  show (decide (t.fmt = 1) && (decide (5 ≤ (t.F.map (canV a)).length) && (numB (vAt (t.F.map (canV a)) 3) 0 60 && numB (vAt (t.F.map (canV a)) 4) 1 3))) = _
  rw [List.length_map]
  by_cases h : 5 ≤ t.F.length
  · rw [vAt_map _ _ 3 (by omega), vAt_map _ _ 4 (by omega), canV_num, canV_num]
  · rw [decide_eq_false h]; simp
theorem mem_objs {F : List PV} {p : Nat} (hp : p < F.length) (ho : (vAt F p).obj = true) : (vAt F p).n ∈ objsOf F := by
  unfold objsOf
  have e : vAt F p = F[p] := by unfold vAt; rw [List.getD_eq_getElem?_getD, List.getElem?_eq_getElem hp]; rfl
  rw [e] at ho ⊢
  exact List.mem_map.2 ⟨F[p], List.mem_filter.2 ⟨List.getElem_mem hp, ho⟩, rfl⟩
section
variable {W : PW} {l : List Bool}
theorem CanW.cls (h : CanW W l) {i : Nat} (hs : sB l i = true) : 0 ≤ (tAt W.L i).cls ∧ sB l (tAt W.L i).cls.toNat = true :=
  h.next hs (by unfold nxW nextsOf; exact List.mem_cons_self)
theorem CanW.fld (h : CanW W l) {i : Nat} (hs : sB l i = true) {p : Nat} (hp : p < (tAt W.L i).F.length) (ho : (vAt (tAt W.L i).F p).obj = true) : 0 ≤ (vAt (tAt W.L i).F p).n ∧ sB l (vAt (tAt W.L i).F p).n.toNat = true := by
  have hi := sB_lt hs
  rw [h.len] at hi
  have hsh := (check_thing h.chk hi).2
  refine h.next hs ?_
  unfold nxW nextsOf
  have g : goesOn true (tAt W.L i) = true := by
    unfold goesOn
    unfold shapeB at hsh
    by_cases f3 : (tAt W.L i).fmt = 3
    · rw [if_pos f3, Bool.and_eq_true, decide_eq_true_eq] at hsh
      omega
    · rw [if_neg f3] at hsh
      by_cases f12 : (tAt W.L i).fmt = 1 ∨ (tAt W.L i).fmt = 2
      · rcases f12 with f | f <;> rw [f] <;> rfl
      · rw [if_neg f12] at hsh; cases hsh
  rw [if_pos g]
  exact List.mem_cons_of_mem _ (mem_objs hp ho)
theorem can_shape (h : CanW W l) {i : Nat} (hs : sB l i = true) : shapeB (cnt W l) (canT (atL l) (tAt W.L i)) = true := by
  have hi := sB_lt hs
  rw [h.len] at hi
  have hsh := (check_thing h.chk hi).2
  unfold shapeB at hsh ⊢
  show (if (tAt W.L i).fmt = 3 then decide (((tAt W.L i).F.map (canV (atL l))).length = 0) && decide ((tAt W.L i).B.size ≤ 200)
    else if (tAt W.L i).fmt = 1 ∨ (tAt W.L i).fmt = 2 then decide ((tAt W.L i).B.size = 0) && (decide (((tAt W.L i).F.map (canV (atL l))).length ≤ 60) && fldsB (cnt W l) ((tAt W.L i).F.map (canV (atL l)))) else false) = true
  rw [List.length_map]
  by_cases f3 : (tAt W.L i).fmt = 3
  · rw [if_pos f3] at hsh ⊢; exact hsh
  · rw [if_neg f3] at hsh ⊢
    by_cases f12 : (tAt W.L i).fmt = 1 ∨ (tAt W.L i).fmt = 2
    · rw [if_pos f12] at hsh ⊢
      simp only [Bool.and_eq_true] at hsh ⊢
      refine ⟨hsh.1, hsh.2.1, ?_⟩
      unfold fldsB
      rw [List.length_map, allTo_iff]
      intro p hp
      rw [vAt_map _ _ p hp]
      have f := (allTo_iff _ _).1 (show allTo (fun j => fldB W.L.length (vAt (tAt W.L i).F j)) (tAt W.L i).F.length = true from hsh.2.2) p hp
      unfold canV fldB
      by_cases ho : (vAt (tAt W.L i).F p).obj = true
      · rw [if_pos ho]
        obtain ⟨a, b⟩ := h.fld hs hp ho
        exact decide_eq_true (h.fa a b)
      · rw [if_neg ho, if_neg ho]
        unfold fldB at f
        rw [if_neg ho] at f
        exact f
    · rw [if_neg f12] at hsh; cases hsh
theorem can_live (h : CanW W l) {n : Int} (h0 : 0 ≤ n) (hs : sB l n.toNat = true) : liveB (canonW W l) (fA (atL l) n) = true := by
  rw [live_nil (show (canonW W l).dead = [] from rfl), h.clen]
  exact decide_eq_true (h.fa h0 hs)
theorem can_prev (h : CanW W l) {i : Nat} (hs : sB l i = true) : prevH (canonW W l).L (rankL l i) < (tAt W.L i).hash := by
  have hi := sB_lt hs
  rw [h.len] at hi
  cases hq : rankL l i with
  | zero => exact one_pos W W.L.length (fun j hj => check_one h.chk hj) i hi
  | succ q =>
    rw [prevH_succ]
    obtain ⟨j, hj, hjs, hjr⟩ := h.some (q := q) (by have := h.rank_in hs; omega)
    rw [← hjr, h.at_ hjs]
    show (tAt W.L j).hash < _
    refine hash_lt h.chk i hi j ?_
    rcases Nat.lt_trichotomy j i with z | z | z
    · exact z
    · subst z; omega
    · have := rank_lt l z (by rw [h.len]; omega) hs; omega
theorem can_one (h : CanW W l) {q : Nat} (hq : q < cnt W l) : oneB (canonW W l) q = true := by
  obtain ⟨i, hi, hs, hr⟩ := h.some hq
  subst hr
  obtain ⟨o1, o2, o3, o4, o5, o6⟩ := (one_iff W i).1 (check_one h.chk hi)
  obtain ⟨c0, cs⟩ := h.cls hs
  have hci := sB_lt cs
  rw [h.len] at hci
  rw [one_iff, h.at_ hs]
  refine ⟨can_prev h hs, o2, ?_, by rw [h.clen]; exact can_shape h hs, fun _ => ⟨?_, ?_⟩, fun hl => ?_⟩
  · rw [h.clen]; exact h.fa c0 cs
  · unfold classB
    show (liveB (canonW W l) (fA (atL l) (tAt W.L i).cls) && isClsB (tAt (canonW W l).L (fA (atL l) (tAt W.L i).cls).toNat)) = true
    rw [can_live h c0 cs, fA_rank l _ c0 cs, Int.toNat_natCast, h.at_ cs, can_cls]
    have := (o5 (h.live hs)).1
    unfold classB at this
    rw [Bool.and_eq_true] at this
    rw [this.2]; rfl
  · unfold liveF
    show allTo _ ((tAt W.L i).F.map (canV (atL l))).length = true
    rw [List.length_map, allTo_iff]
    intro p hp
    show (!(vAt ((tAt W.L i).F.map (canV (atL l))) p).obj || liveB (canonW W l) (vAt ((tAt W.L i).F.map (canV (atL l))) p).n) = true
    rw [vAt_map _ _ p hp]
    unfold canV
    by_cases ho : (vAt (tAt W.L i).F p).obj = true
    · rw [if_pos ho]
      obtain ⟨a, b⟩ := h.fld hs hp ho
      show (!true || liveB _ (fA (atL l) _)) = true
      rw [can_live h a b]; rfl
    · rw [if_neg ho]
      simp only [Bool.not_eq_true] at ho
      rw [ho]; rfl
  · have : liveB (canonW W l) ((rankL l i : Nat) : Int) = true := by
      rw [live_nil (show (canonW W l).dead = [] from rfl), h.clen]
      exact decide_eq_true ⟨by omega, by have := h.rank_in hs; omega⟩
    rw [this] at hl; cases hl
end
end Go.Proofs.Ytadhkmplhgcgkaa.World
namespace Go.Proofs.Ytadhkmplhgcgkaa.World
open Go.RowKit Go.Proofs.Ytadhkmplhgcgkaa.Plain
set_option linter.unusedVariables false
/-! ### what registers lead to -/
theorem add1_old {l : List Int} {x y : Int} (h : y ∈ l) : y ∈ add1 l x := by
  unfold add1; split
  · exact List.mem_append_left _ h
  · exact h
theorem add1_self {l : List Int} {x : Int} (h : x ≠ 0) : x ∈ add1 l x := by
  unfold add1; split
  · simp
  · rename_i c
    have : l.contains x = true := by
      cases hc : l.contains x with
      | true => rfl
      | false => exact absurd ⟨h, hc⟩ c
    exact List.contains_iff_mem.1 this
theorem fold_old (l : List Int) : ∀ l0 : List Int, ∀ y ∈ l0, y ∈ l.foldl add1 l0 := by
  induction l with
  | nil => intro l0 y h; exact h
  | cons a l ih => intro l0 y h; exact ih _ y (add1_old h)
theorem fold_new (l : List Int) : ∀ l0 : List Int, ∀ y ∈ l, y ≠ 0 → y ∈ l.foldl add1 l0 := by
  induction l with
  | nil => intro l0 y h; cases h
  | cons a l ih =>
    intro l0 y h hy
    rcases List.mem_cons.1 h with e | e
    · subst e; exact fold_old l _ _ (add1_self hy)
    · exact ih _ y e hy
theorem fold2_old (l : List (Int × Int)) : ∀ l0 : List Int, ∀ y ∈ l0, y ∈ l.foldl (fun l p => add1 (add1 l p.1) p.2) l0 := by
  induction l with
  | nil => intro l0 y h; exact h
  | cons a l ih => intro l0 y h; exact ih _ y (add1_old (add1_old h))
theorem fold2_new (l : List (Int × Int)) : ∀ l0 : List Int, ∀ p ∈ l, (p.1 ≠ 0 → p.1 ∈ l.foldl (fun l p => add1 (add1 l p.1) p.2) l0) ∧ (p.2 ≠ 0 → p.2 ∈ l.foldl (fun l p => add1 (add1 l p.1) p.2) l0) := by
  induction l with
  | nil => intro l0 p h; cases h
  | cons a l ih =>
    intro l0 p h
    rcases List.mem_cons.1 h with e | e
    · subst e
      exact ⟨fun hp => fold2_old l _ _ (add1_old (add1_self hp)), fun hp => fold2_old l _ _ (add1_self hp)⟩
    · exact ih _ p e
/-- one of the places that registers hold -/
def InR (R : PR) (x : Int) : Prop := x = R.proc ∨ x = R.frame ∨ x ∈ R.ready ∨ x ∈ R.due ∨ ∃ p ∈ R.wait, x = p.1 ∨ x = p.2
theorem mem_listOf {R : PR} {x : Int} (h : InR R x) (hx : x ≠ 0) : x ∈ listOf R := by
  unfold listOf
  rcases h with h | h | h | h | ⟨p, hp, h⟩
  · exact fold_old _ _ _ (fold2_old _ _ _ (fold_old _ _ _ (add1_old (by rw [h]; exact add1_self (by rw [← h]; exact hx)))))
  · exact fold_old _ _ _ (fold2_old _ _ _ (fold_old _ _ _ (by rw [h]; exact add1_self (by rw [← h]; exact hx))))
  · exact fold_old _ _ _ (fold2_old _ _ _ (fold_new _ _ _ h hx))
  · exact fold_new _ _ _ h hx
  · have q := fold2_new R.wait (R.ready.foldl add1 (add1 (add1 [] R.proc) R.frame)) p hp
    rcases h with h | h
    · subst h; exact fold_old _ _ _ (q.1 hx)
    · subst h; exact fold_old _ _ _ (q.2 hx)
theorem listOf_in {R : PR} : ∀ x ∈ listOf R, InR R x :=
  listOf_all (P := InR R) (.inl rfl) (.inr (.inl rfl)) (fun y hy => .inr (.inr (.inl hy))) (fun p hp => ⟨.inr (.inr (.inr (.inr ⟨p, hp, .inl rfl⟩))), .inr (.inr (.inr (.inr ⟨p, hp, .inr rfl⟩)))⟩) (fun y hy => .inr (.inr (.inr (.inl hy))))
section
variable {W : PW} {l : List Bool}
theorem CanW.reg (h : CanW W l) {x : Int} (hx : InR W.R x) (ht : thereB W x = true) : 0 < x ∧ sB l x.toNat = true := by
  have r := there_in ht
  have h0 : x ≠ 0 := by
    unfold thereB at ht
    rw [Bool.and_eq_true] at ht
    simpa using ht.1
  refine ⟨by omega, ?_⟩
  by_cases h23 : x < 23
  · exact h.first _ (by omega)
  · refine h.sb (.root ?_)
    unfold rootsOf
    exact List.mem_append_right _ (List.mem_filter.2 ⟨mem_listOf hx h0, decide_eq_true (by omega)⟩)
theorem can_there (h : CanW W l) {x : Int} (hx : InR W.R x) (ht : thereB W x = true) : toldN (fA (atL l)) x = (rankL l x.toNat : Int) ∧ 0 < (rankL l x.toNat : Int) ∧ thereB (canonW W l) (toldN (fA (atL l)) x) = true := by
  obtain ⟨h0, hs⟩ := h.reg hx ht
  have e : toldN (fA (atL l)) x = (rankL l x.toNat : Int) := by
    unfold toldN
    rw [if_neg (by omega), fA_rank l x (by omega) hs]
  have p : 0 < rankL l x.toNat := by
    have := rank_lt l (i := 0) (j := x.toNat) (by omega) (Nat.le_of_lt (sB_lt hs)) (h.first 0 (by omega))
    omega
  refine ⟨e, by omega, ?_⟩
  rw [e]
  unfold thereB
  rw [decide_eq_false (by omega), live_nil (show (canonW W l).dead = [] from rfl), h.clen, decide_eq_true ⟨by omega, by have := h.rank_in hs; omega⟩]; rfl
theorem can_regs (h : CanW W l) : regsB (canonW W l) = true := by
  have hg := check_regs h.chk
  unfold regsB at hg ⊢
  simp only [Bool.and_eq_true, Bool.or_eq_true, decide_eq_true_eq] at hg ⊢
  obtain ⟨g1, g2, g3, g4, g5, g6, g7, g8⟩ := hg
  have one : ∀ x, InR W.R x → (x = 0 ∨ thereB W x = true) → (toldN (fA (atL l)) x = 0 ∨ thereB (canonW W l) (toldN (fA (atL l)) x) = true) := fun x hx ht => by
    rcases ht with e | e
    · left; subst e; rfl
    · exact .inr (can_there h hx e).2.2
  have lst : ∀ L : List Int, (∀ x ∈ L, InR W.R x) → thereL W L = true → thereL (canonW W l) (L.map (toldN (fA (atL l)))) = true := fun L hL ht => by
    unfold thereL at ht ⊢
    rw [allTo_iff] at ht ⊢
    rw [List.length_map]
    intro j hj
    have t := ht j hj
    rw [List.getD_eq_getElem?_getD, List.getElem?_eq_getElem hj] at t
    rw [List.getD_eq_getElem?_getD, List.getElem?_map, List.getElem?_eq_getElem hj]
    exact (can_there h (hL _ (List.getElem_mem hj)) t).2.2
  refine ⟨one _ (.inl rfl) g1, one _ (.inr (.inl rfl)) g2, lst _ (fun x hx => .inr (.inr (.inl hx))) g3, lst _ (fun x hx => .inr (.inr (.inr (.inl hx)))) g4, ?_, ?_, ?_, g8⟩
  · show onceB (W.R.due.map (toldN (fA (atL l)))) = true
    unfold onceB at g5 ⊢
    rw [allTo_iff] at g5 ⊢
    rw [List.length_map]
    intro j hj
    have t := g5 j hj
    have mem : ∀ y ∈ W.R.due, InR W.R y ∧ thereB W y = true := fun y hy => ⟨.inr (.inr (.inr (.inl hy))), thereL_all g4 y hy⟩
    rw [List.getD_eq_getElem?_getD, List.getElem?_eq_getElem hj] at t
    rw [List.getD_eq_getElem?_getD, List.getElem?_map, List.getElem?_eq_getElem hj]
    show (!((W.R.due.map (toldN (fA (atL l)))).take j).contains (toldN (fA (atL l)) W.R.due[j])) = true
    have t : (!(W.R.due.take j).contains W.R.due[j]) = true := t
    rw [Bool.not_eq_true'] at t ⊢
    rw [← List.map_take]
    cases hc : ((W.R.due.take j).map (toldN (fA (atL l)))).contains (toldN (fA (atL l)) W.R.due[j]) with
    | false => rfl
    | true =>
      exfalso
      obtain ⟨y, hy, e⟩ := List.mem_map.1 (List.contains_iff_mem.1 hc)
      have my := mem y (List.mem_of_mem_take hy)
      have mx := mem _ (List.getElem_mem hj)
      obtain ⟨a1, a2⟩ := h.reg my.1 my.2
      obtain ⟨b1, b2⟩ := h.reg mx.1 mx.2
      rw [(can_there h my.1 my.2).1, (can_there h mx.1 mx.2).1] at e
      have := rank_inj l a2 b2 (by omega)
      have ee : y = W.R.due[j] := by omega
      rw [← ee] at t
      rw [List.contains_iff_mem.2 hy] at t
      cases t
  · show waitB (canonW W l) (W.R.wait.map (toldP (fA (atL l)))) = true
    unfold waitB at g6 ⊢
    rw [allTo_iff] at g6 ⊢
    rw [List.length_map]
    intro j hj
    have t := g6 j hj
    unfold wAt at t ⊢
    rw [List.getD_eq_getElem?_getD, List.getElem?_eq_getElem hj] at t
    rw [List.getD_eq_getElem?_getD, List.getElem?_map, List.getElem?_eq_getElem hj]
    rw [Bool.and_eq_true] at t ⊢
    exact ⟨(can_there h (.inr (.inr (.inr (.inr ⟨_, List.getElem_mem hj, .inl rfl⟩)))) t.1).2.2, (can_there h (.inr (.inr (.inr (.inr ⟨_, List.getElem_mem hj, .inr rfl⟩)))) t.2).2.2⟩
  · show (W.R.ready.map _).length ≤ 20 ∧ (W.R.wait.map _).length ≤ 20 ∧ (W.R.due.map _).length ≤ 3000 ∧ _
    rw [List.length_map, List.length_map, List.length_map]
    exact g7
theorem can_check (h : CanW W l) : checkB (canonW W l) = true := by
  have hl := check_len h.chk
  have c := h.c23
  have hc := h.chk
  unfold checkB at hc ⊢
  simp only [Bool.and_eq_true] at hc ⊢
  refine ⟨by rw [h.clen]; exact decide_eq_true (by omega), decide_eq_true (.inl rfl), ?_, ?_, can_regs h⟩
  · unfold thingsB
    rw [Bool.and_eq_true, Bool.and_eq_true, allTo_iff, h.clen]
    refine ⟨fun q hq => can_one h hq, decide_eq_true ?_, decide_eq_true ?_⟩
    · obtain ⟨k, hk⟩ : ∃ k, cnt W l = k + 1 := ⟨cnt W l - 1, by omega⟩
      rw [hk, prevH_succ]
      obtain ⟨i, hi, hs, hr⟩ := h.some (q := k) (by omega)
      rw [← hr, h.at_ hs]
      exact (hash_last h.chk i hi).1
    · exact (hash_last h.chk 0 (by omega)).2
  · have sp := hc.2.2.2.1
    unfold specB at sp ⊢
    rw [allTo_iff] at sp ⊢
    intro i hi
    have s := sp i hi
    have hs := h.first i hi
    have e := h.at_ hs
    rw [rank_first l h.first i (by omega)] at e
    have told : ∀ n : Int, 0 ≤ n → n < 23 → fA (atL l) n = n := fun n h0 h1 => by
      rw [fA_rank l n h0 (h.first _ (by omega)), rank_first l h.first _ (by omega)]; omega
    unfold spec1B at s ⊢
    rw [e]
    show (if i ≤ 2 then decide (fA (atL l) (tAt W.L i).cls = 3 + i) else if i ≤ 18 then decide (fA (atL l) (tAt W.L i).cls = 10) else if i < 22 then decide ((tAt W.L i).fmt = 3) else decide ((tAt W.L i).fmt = 1)) = true
    by_cases h2 : i ≤ 2
    · rw [if_pos h2] at s ⊢
      rw [of_decide_eq_true s, told _ (by omega) (by omega)]; exact decide_eq_true rfl
    · rw [if_neg h2] at s ⊢
      by_cases h18 : i ≤ 18
      · rw [if_pos h18] at s ⊢
        rw [of_decide_eq_true s, told _ (by omega) (by omega)]; exact decide_eq_true rfl
      · rw [if_neg h18] at s ⊢
        exact s
end
end Go.Proofs.Ytadhkmplhgcgkaa.World
namespace Go.Proofs.Ytadhkmplhgcgkaa.World
open Go.RowKit Go.Proofs.Ytadhkmplhgcgkaa.Plain
set_option linter.unusedVariables false
theorem objs_map (a : List Int) (F : List PV) : objsOf (F.map (canV a)) = (objsOf F).map (fA a) := by
  unfold objsOf
  induction F with
  | nil => rfl
  | cons v F ih =>
    rw [List.map_cons]
    unfold canV
    by_cases h : v.obj = true
    · rw [if_pos h, List.filter_cons_of_pos rfl, List.filter_cons_of_pos h, List.map_cons, List.map_cons, List.map_cons]
      congr 1
    · rw [if_neg h, List.filter_cons_of_neg h, List.filter_cons_of_neg h]
      exact ih
theorem inR_told {R : PR} {x : Int} (f : Int → Int) (h : InR R x) : InR (toldR f R) (toldN f x) := by
  rcases h with h | h | h | h | ⟨p, hp, h⟩
  · subst h; exact .inl rfl
  · subst h; exact .inr (.inl rfl)
  · exact .inr (.inr (.inl (List.mem_map.2 ⟨x, h, rfl⟩)))
  · exact .inr (.inr (.inr (.inl (List.mem_map.2 ⟨x, h, rfl⟩))))
  · refine .inr (.inr (.inr (.inr ⟨toldP f p, List.mem_map.2 ⟨p, hp, rfl⟩, ?_⟩)))
    rcases h with h | h
    · subst h; exact .inl rfl
    · subst h; exact .inr rfl
section
variable {W : PW} {l : List Bool}
theorem can_come (h : CanW W l) {i : Nat} (hr : Rch (nxW W true) (rootsOf W.R) i) : Rch (nxW (canonW W l) true) (rootsOf (canonW W l).R) (rankL l i) := by
  induction hr with
  | @root r hm =>
    by_cases h23 : r < 23
    · have r0 := (roots_in h.chk r hm).1
      rw [rank_first l h.first _ (by omega)]
      exact rch_root (by omega)
    · unfold rootsOf at hm
      rcases List.mem_append.1 hm with q | q
      · unfold upTo at q
        obtain ⟨k, hk, rfl⟩ := List.mem_map.1 q
        have := List.mem_range.1 hk
        omega
      · obtain ⟨q1, q2⟩ := List.mem_filter.1 q
        have ir := listOf_in r q1
        have tr : thereB W r = true := by
          have lv := root_live h.chk r (by unfold rootsOf; exact hm)
          unfold thereB
          rw [lv, decide_eq_false (by omega)]; rfl
        obtain ⟨e1, e2, e3⟩ := can_there h ir tr
        obtain ⟨a1, a2⟩ := h.reg ir tr
        have ic : InR (canonW W l).R (rankL l r.toNat : Int) := by rw [← e1]; exact inR_told _ ir
        have ge : 23 ≤ rankL l r.toNat := by
          have := rank_mono l 23 r.toNat (by omega) (Nat.le_of_lt (sB_lt a2))
          rw [rank_first l h.first 23 (Nat.le_refl _)] at this
          exact this
        have m : (rankL l r.toNat : Int) ∈ rootsOf (canonW W l).R := by
          unfold rootsOf
          exact List.mem_append_right _ (List.mem_filter.2 ⟨mem_listOf ic (by omega), decide_eq_true (by omega)⟩)
        have z := Rch.root (nx := nxW (canonW W l) true) m
        rw [Int.toNat_natCast] at z
        exact z
  | @step i j hr hj ih =>
    have hs := h.sb hr
    obtain ⟨j0, js⟩ := h.next hs hj
    have m : fA (atL l) j ∈ nxW (canonW W l) true (rankL l i) := by
      unfold nxW
      rw [h.at_ hs]
      unfold nxW nextsOf at hj
      unfold nextsOf
      show fA (atL l) j ∈ fA (atL l) (tAt W.L i).cls :: (if goesOn true (tAt W.L i) = true then objsOf ((tAt W.L i).F.map (canV (atL l))) else [])
      rcases List.mem_cons.1 hj with q | q
      · rw [q]; exact List.mem_cons_self
      · by_cases g : goesOn true (tAt W.L i) = true
        · rw [if_pos g] at q ⊢
          rw [objs_map]
          exact List.mem_cons_of_mem _ (List.mem_map.2 ⟨j, q, rfl⟩)
        · rw [if_neg g] at q; cases q
    have z := Rch.step ih m
    rw [fA_rank l j j0 js, Int.toNat_natCast] at z
    exact z
theorem can_all (h : CanW W l) {l' : List Bool} (hl : RchL (canonW W l).L.length (nxW (canonW W l) true) (rootsOf (canonW W l).R) l') : l' = List.replicate (canonW W l).L.length true :=
  rch_all (can_check h) (fun q hq => by
    rw [h.clen] at hq
    obtain ⟨i, hi, hs, hr⟩ := h.some hq
    rw [← hr]
    exact can_come h ((h.rch.2 i).1 hs)) hl
end
/-! ### where all is come to, the canon is the world itself -/
theorem rank_rep (n : Nat) : ∀ i, i ≤ n → rankL (List.replicate n true) i = i := by
  intro i
  induction i with
  | zero => intro _; rfl
  | succ i ih =>
    intro hi
    have hs : sB (List.replicate n true) i = true := by
      unfold sB; rw [List.getD_eq_getElem?_getD, List.getElem?_replicate, if_pos (by omega)]; rfl
    rw [rankL_succ _ i (by simp; omega), ih (by omega), if_pos hs]
theorem fA_rep (n : Nat) (x : Int) (h0 : 0 ≤ x) (h1 : x < n) : fA (atL (List.replicate n true)) x = x := by
  have hs : sB (List.replicate n true) x.toNat = true := by
    unfold sB; rw [List.getD_eq_getElem?_getD, List.getElem?_replicate, if_pos (by omega)]; rfl
  rw [fA_rank _ x h0 hs, rank_rep n _ (by omega)]; omega
theorem toldN_rep (n : Nat) (x : Int) (h : x = 0 ∨ (0 ≤ x ∧ x < n)) : toldN (fA (atL (List.replicate n true))) x = x := by
  unfold toldN
  by_cases e : x = 0
  · rw [if_pos e]; exact e.symm
  · rw [if_neg e]
    rcases h with h | h
    · exact absurd h e
    · exact fA_rep n x h.1 h.2
theorem map_self {α : Type} (f : α → α) (L : List α) (h : ∀ x ∈ L, f x = x) : L.map f = L := by
  rw [List.map_congr_left h]; exact List.map_id' L
theorem canT_self {W : PW} (h : checkB W = true) {i : Nat} (hi : i < W.L.length) : canT (atL (List.replicate W.L.length true)) (tAt W.L i) = tAt W.L i := by
  obtain ⟨hc, hs⟩ := check_thing h hi
  have hF : (tAt W.L i).F.map (canV (atL (List.replicate W.L.length true))) = (tAt W.L i).F := by
    refine map_self _ _ (fun v hv => ?_)
    unfold canV
    by_cases ho : v.obj = true
    · rw [if_pos ho]
      obtain ⟨p, hp, e⟩ := List.mem_iff_getElem.1 hv
      have ev : vAt (tAt W.L i).F p = v := by unfold vAt; rw [List.getD_eq_getElem?_getD, List.getElem?_eq_getElem hp, e]; rfl
      unfold shapeB at hs
      by_cases f3 : (tAt W.L i).fmt = 3
      · rw [if_pos f3, Bool.and_eq_true, decide_eq_true_eq] at hs; omega
      · rw [if_neg f3] at hs
        by_cases f12 : (tAt W.L i).fmt = 1 ∨ (tAt W.L i).fmt = 2
        · rw [if_pos f12] at hs
          simp only [Bool.and_eq_true] at hs
          have f := (allTo_iff _ _).1 (show allTo (fun j => fldB W.L.length (vAt (tAt W.L i).F j)) (tAt W.L i).F.length = true from hs.2.2) p hp
          rw [ev] at f
          unfold fldB at f
          rw [if_pos ho, decide_eq_true_eq] at f
          rw [fA_rep _ _ f.1 f.2]
          obtain ⟨o, n⟩ := v
          simp only at ho
          rw [ho]
        · rw [if_neg f12] at hs; cases hs
    · rw [if_neg ho]
  unfold canT
  rw [hF, fA_rep _ _ hc.1 hc.2]
theorem canon_self {W : PW} (h : checkB W = true) : canonW W (List.replicate W.L.length true) = { W with dead := [] } := by
  have hL : canK W (List.replicate W.L.length true) W.L.length = W.L := by
    unfold canK
    have hf : (List.range W.L.length).filter (fun j => sB (List.replicate W.L.length true) j) = List.range W.L.length := by
      rw [List.filter_eq_self]
      intro j hj
      have := List.mem_range.1 hj
      unfold sB; rw [List.getD_eq_getElem?_getD, List.getElem?_replicate, if_pos this]; rfl
    rw [hf]
    refine List.ext_getElem? (fun q => ?_)
    rw [List.getElem?_map]
    by_cases hq : q < W.L.length
    · rw [List.getElem?_range hq]
      show some (canT _ (tAt W.L q)) = _
      rw [canT_self h hq]
      unfold tAt
      rw [List.getD_eq_getElem?_getD, List.getElem?_eq_getElem hq]; rfl
    · rw [List.getElem?_eq_none (by simpa using hq), List.getElem?_eq_none (by omega)]; rfl
  have hg := check_regs h
  unfold regsB at hg
  simp only [Bool.and_eq_true, Bool.or_eq_true, decide_eq_true_eq] at hg
  obtain ⟨g1, g2, g3, g4, _, g6, _⟩ := hg
  have ok : ∀ x, (x = 0 ∨ thereB W x = true) → toldN (fA (atL (List.replicate W.L.length true))) x = x := fun x hx => toldN_rep _ x (hx.imp id there_in)
  have hR : toldR (fA (atL (List.replicate W.L.length true))) W.R = W.R := by
    unfold toldR
    rw [ok _ g1, ok _ g2, map_self _ _ (fun x hx => ok x (.inr (thereL_all g3 x hx))), map_self _ _ (fun x hx => ok x (.inr (thereL_all g4 x hx)))]
    rw [map_self (toldP _) W.R.wait (fun p hp => by
      unfold waitB at g6
      obtain ⟨q, hq, hqv⟩ := List.mem_iff_getElem.1 hp
      have f := (allTo_iff _ _).1 g6 q hq
      unfold wAt at f
      rw [List.getD_eq_getElem?_getD, List.getElem?_eq_getElem hq, hqv] at f
      rw [Bool.and_eq_true] at f
      unfold toldP
      rw [ok p.1 (.inr f.1), ok p.2 (.inr f.2)])]
  unfold canonW
  rw [hL, hR]
/-- canonical twice is once -/
theorem canon_twice {W : PW} {l l' : List Bool} (h : CanW W l) (hl : RchL (canonW W l).L.length (nxW (canonW W l) true) (rootsOf (canonW W l).R) l') : canonW (canonW W l) l' = canonW W l := by
  rw [can_all h hl, canon_self (can_check h)]; rfl
end Go.Proofs.Ytadhkmplhgcgkaa.World
namespace Go.Proofs.Ytadhkmplhgcgkaa.World
open Go.RowKit Go.Proofs.Ytadhkmplhgcgkaa.Plain
set_option linter.unusedVariables false
def newT (W : PW) : PT := ⟨10, 1, W.last + 1, false, [⟨true, (W.L.length : Int)⟩], ByteArray.empty⟩
/-- a thing more, that has itself alone -/
def moreW (W : PW) : PW := { L := W.L ++ [newT W], dead := (if W.dead.length = 0 then [] else W.dead ++ [false]), last := W.last + 1, R := W.R }
section
variable {W : PW}
theorem more_len : (moreW W).L.length = W.L.length + 1 := by unfold moreW; simp
theorem more_at (j : Nat) : tAt (moreW W).L j = if j < W.L.length then tAt W.L j else if j = W.L.length then newT W else dT := MS.tAt_app W.L (newT W) j
theorem dead_len (h : checkB W = true) : W.dead.length = 0 ∨ W.dead.length = W.L.length := by
  unfold checkB at h
  simp only [Bool.and_eq_true, decide_eq_true_eq] at h
  exact h.2.1
theorem more_live (h : checkB W = true) (i : Int) : liveB (moreW W) i = (liveB W i || decide (i = W.L.length)) := by
  have hd := dead_len h
  unfold liveB
  rw [more_len]
  have e : ∀ k : Nat, k < W.L.length → (moreW W).dead.getD k false = W.dead.getD k false := fun k hk => by
    unfold moreW
    by_cases z : W.dead.length = 0
    · rw [if_pos z]
      rw [List.getD_eq_getElem?_getD, List.getD_eq_getElem?_getD, List.getElem?_eq_none (by simp), List.getElem?_eq_none (by omega)]
    · rw [if_neg z]
      rw [List.getD_eq_getElem?_getD, List.getD_eq_getElem?_getD, List.getElem?_append_left (by omega)]
  have eN : (moreW W).dead.getD W.L.length false = false := by
    unfold moreW
    by_cases z : W.dead.length = 0
    · rw [if_pos z]; rfl
    · rw [if_neg z]
      rw [List.getD_eq_getElem?_getD, List.getElem?_append_right (by omega)]
      have : W.L.length - W.dead.length = 0 := by omega
      rw [this]; rfl
  by_cases h0 : 0 ≤ i ∧ i < W.L.length
  · rw [decide_eq_true h0, decide_eq_true (by omega), e _ (by omega), decide_eq_false (by omega)]; simp
  · by_cases hN : i = W.L.length
    · subst hN
      rw [Int.toNat_natCast, eN, decide_eq_true (by omega), decide_eq_true rfl]; simp
    · rw [decide_eq_false h0, decide_eq_false (by omega), decide_eq_false hN]; rfl
theorem more_live_old (h : checkB W = true) {i : Int} (hl : liveB W i = true) : liveB (moreW W) i = true := by rw [more_live h, hl]; rfl
theorem more_there (h : checkB W = true) {i : Int} (ht : thereB W i = true) : thereB (moreW W) i = true := by
  unfold thereB at *
  rw [Bool.and_eq_true] at *
  exact ⟨ht.1, more_live_old h ht.2⟩
theorem more_prev (i : Nat) (hi : i ≤ W.L.length) : prevH (moreW W).L i = prevH W.L i := prevH_app W.L (newT W) i hi
theorem cls10 (h : checkB W = true) : isClsB (tAt W.L 10) = true ∧ liveB W 10 = true := by
  have hl := check_len h
  have sp := h
  unfold checkB at sp
  simp only [Bool.and_eq_true] at sp
  have s3 := (allTo_iff _ _).1 (show allTo (spec1B W) 23 = true from sp.2.2.2.1) 3 (by omega)
  have c3 : (tAt W.L 3).cls = 10 := by
    unfold spec1B at s3
    rw [if_neg (by omega), if_pos (by omega)] at s3
    exact of_decide_eq_true s3
  obtain ⟨_, _, _, _, e, f⟩ := (one_iff W 3).1 (check_one h (by omega))
  have l3 : liveB W ((3 : Nat) : Int) = true := by
    cases hv : liveB W ((3 : Nat) : Int) with
    | true => rfl
    | false => have := f hv; omega
  have q := (e l3).1
  unfold classB at q
  rw [c3, Bool.and_eq_true] at q
  exact ⟨q.2, q.1⟩
theorem more_check (h : checkB W = true) (hl : W.last < 3000) (hn : W.L.length < 3000) : checkB (moreW W) = true := by
  have hlen := check_len h
  have hd := dead_len h
  have c10 := cls10 h
  have hc := h
  unfold checkB at hc ⊢
  simp only [Bool.and_eq_true] at hc ⊢
  refine ⟨by rw [more_len]; exact decide_eq_true (by omega), ?_, ?_, ?_, ?_⟩
  · rw [more_len]
    unfold moreW
    by_cases z : W.dead.length = 0
    · rw [if_pos z]; rfl
    · rw [if_neg z]
      show decide ((W.dead ++ [false]).length = 0 ∨ (W.dead ++ [false]).length = W.L.length + 1) = true
      rw [List.length_append]
      exact decide_eq_true (.inr (by show W.dead.length + 1 = _; omega))
  · unfold thingsB
    rw [Bool.and_eq_true, Bool.and_eq_true, allTo_iff, more_len]
    refine ⟨fun i hi => ?_, decide_eq_true ?_, decide_eq_true ?_⟩
    · rw [one_iff, more_at, more_prev i (by omega), more_len]
      by_cases hiN : i < W.L.length
      · rw [if_pos hiN]
        obtain ⟨o1, o2, o3, o4, o5, o6⟩ := (one_iff W i).1 (check_one h hiN)
        have hle : liveB (moreW W) i = liveB W i := by rw [more_live h, decide_eq_false (by omega), Bool.or_false]
        refine ⟨o1, o2, by omega, shape_mono (by omega) o4, fun hv => ?_, fun hv => o6 (by rw [← hle]; exact hv)⟩
        rw [hle] at hv
        obtain ⟨p1, p2⟩ := o5 hv
        unfold classB at p1 ⊢
        rw [Bool.and_eq_true] at p1
        refine ⟨?_, ?_⟩
        · rw [more_live_old h p1.1, more_at, if_pos (by omega), p1.2]; rfl
        · unfold liveF at p2 ⊢
          exact allTo_mono p2 (fun p hp hf => by
            rw [Bool.or_eq_true] at hf ⊢
            exact hf.imp id (more_live_old h))
      · obtain rfl : i = W.L.length := by omega
        rw [if_neg (by omega), if_pos rfl]
        have hlast : prevH W.L W.L.length ≤ W.last := by
          have hT := hc.2.2.1
          unfold thingsB at hT
          simp only [Bool.and_eq_true, decide_eq_true_eq] at hT
          exact hT.2.1
        have lN : liveB (moreW W) (W.L.length : Int) = true := by rw [more_live h, decide_eq_true rfl, Bool.or_true]
        refine ⟨?_, ?_, ?_, ?_, fun _ => ⟨?_, ?_⟩, fun hv => by omega⟩
        · show prevH W.L W.L.length < W.last + 1; omega
        · show W.last + 1 ≤ 3000; omega
        · show (0 : Int) ≤ 10 ∧ (10 : Int) < _; omega
        · unfold shapeB newT
          show (if (1 : Int) = 3 then _ else if (1 : Int) = 1 ∨ (1 : Int) = 2 then (decide (ByteArray.empty.size = 0) && (decide (1 ≤ 60) && fldsB (W.L.length + 1) [⟨true, (W.L.length : Int)⟩])) else false) = true
          rw [if_neg (by omega), if_pos (by omega)]
          have : fldsB (W.L.length + 1) [⟨true, (W.L.length : Int)⟩] = true := by
            show (true && decide (0 ≤ (W.L.length : Int) ∧ (W.L.length : Int) < ((W.L.length + 1 : Nat) : Int))) = true
            rw [decide_eq_true (by omega)]; rfl
          rw [this]; rfl
        · show classB (moreW W) 10 = true
          unfold classB
          rw [more_live_old h c10.2, more_at, if_pos (by show (10 : Int).toNat < _; omega)]
          show (true && isClsB (tAt W.L 10)) = true
          rw [c10.1]; rfl
        · show (true && (!true || liveB (moreW W) (W.L.length : Int))) = true
          rw [lN]; rfl
    · rw [prevH_succ, more_at, if_neg (by omega), if_pos rfl]; exact Int.le_refl _
    · show W.last + 1 ≤ 3000; omega
  · unfold specB
    rw [allTo_iff]
    intro i hi
    have s := (allTo_iff _ _).1 (show allTo (spec1B W) 23 = true from hc.2.2.2.1) i hi
    have e : tAt (moreW W).L i = tAt W.L i := by rw [more_at, if_pos (by omega)]
    unfold spec1B at s ⊢
    rw [e]
    exact s
  · have hg := hc.2.2.2.2
    unfold regsB at hg ⊢
    simp only [Bool.and_eq_true, Bool.or_eq_true, decide_eq_true_eq] at hg ⊢
    obtain ⟨g1, g2, g3, g4, g5, g6, g7, g8⟩ := hg
    refine ⟨g1.imp id (more_there h), g2.imp id (more_there h), ?_, ?_, g5, ?_, g7, g8⟩
    · unfold thereL at g3 ⊢; exact allTo_mono g3 (fun _ _ hf => more_there h hf)
    · unfold thereL at g4 ⊢; exact allTo_mono g4 (fun _ _ hf => more_there h hf)
    · unfold waitB at g6 ⊢
      exact allTo_mono g6 (fun _ _ hf => by
        rw [Bool.and_eq_true] at hf ⊢
        exact ⟨more_there h hf.1, more_there h hf.2⟩)
/-- nothing leads to it -/
theorem more_next (weak : Bool) (i : Nat) (hi : i < W.L.length) : nxW (moreW W) weak i = nxW W weak i := by
  unfold nxW
  rw [more_at, if_pos hi]
theorem more_rch (h : checkB W = true) {weak : Bool} {i : Nat} : Rch (nxW (moreW W) weak) (rootsOf (moreW W).R) i ↔ Rch (nxW W weak) (rootsOf W.R) i := by
  constructor
  · intro hr
    induction hr with
    | root hm => exact .root hm
    | @step i j hr hj ih =>
      rw [more_next weak i (rch_lt h ih)] at hj
      exact .step ih hj
  · intro hr
    induction hr with
    | root hm => exact .root hm
    | @step i j hr hj ih =>
      rw [← more_next weak i (rch_lt h hr)] at hj
      exact .step ih hj
theorem sB_more (l : List Bool) (i : Nat) : sB (l ++ [false]) i = sB l i := by
  unfold sB
  rw [List.getD_eq_getElem?_getD, List.getD_eq_getElem?_getD]
  by_cases hi : i < l.length
  · rw [List.getElem?_append_left hi]
  · rw [List.getElem?_eq_none (show l.length ≤ i by omega)]
    by_cases e : i = l.length
    · subst e; simp
    · rw [List.getElem?_eq_none (by simp; omega)]
theorem more_list (h : checkB W = true) {l l' : List Bool} {weak : Bool} (hl : RchL W.L.length (nxW W weak) (rootsOf W.R) l) (hl' : RchL (moreW W).L.length (nxW (moreW W) weak) (rootsOf (moreW W).R) l') : l' = l ++ [false] := by
  refine hl'.uniq ⟨by rw [more_len, List.length_append, hl.1]; rfl, fun i => ?_⟩
  rw [sB_more, more_rch h]
  exact hl.2 i
theorem rank_more (l : List Bool) : ∀ i, i ≤ l.length → rankL (l ++ [false]) i = rankL l i := by
  intro i
  induction i with
  | zero => intro _; rfl
  | succ i ih =>
    intro hi
    rw [rankL_succ _ i (by simp; omega), rankL_succ l i (by omega), ih (by omega), sB_more]
theorem fA_more (l : List Bool) (x : Int) (h0 : 0 ≤ x) (hs : sB l x.toNat = true) : fA (atL (l ++ [false])) x = fA (atL l) x := by
  rw [fA_rank _ x h0 (by rw [sB_more]; exact hs), fA_rank _ x h0 hs, rank_more l _ (Nat.le_of_lt (sB_lt hs))]
theorem canon_more {l : List Bool} (h : CanW W l) : canonW (moreW W) (l ++ [false]) = { canonW W l with last := W.last + 1 } := by
  have hL : canK (moreW W) (l ++ [false]) (moreW W).L.length = canK W l W.L.length := by
    rw [more_len, canK_succ]
    have hN : sB (l ++ [false]) W.L.length = false := by
      rw [sB_more]; unfold sB
      rw [List.getD_eq_getElem?_getD, List.getElem?_eq_none (by rw [h.len]; exact Nat.le_refl _)]; rfl
    rw [if_neg (by rw [hN]; decide), List.append_nil]
    unfold canK
    have e : (List.range W.L.length).filter (fun j => sB (l ++ [false]) j) = (List.range W.L.length).filter (fun j => sB l j) := by
      congr 1; funext j; exact sB_more l j
    rw [e]
    refine List.map_congr_left (fun j hj => ?_)
    obtain ⟨hj1, hj2⟩ := List.mem_filter.1 hj
    have hjN := List.mem_range.1 hj1
    rw [more_at, if_pos hjN]
    unfold canT
    obtain ⟨c0, cs⟩ := h.cls hj2
    rw [fA_more l _ c0 cs]
    congr 1
    refine List.map_congr_left (fun v hv => ?_)
    unfold canV
    by_cases ho : v.obj = true
    · rw [if_pos ho, if_pos ho]
      obtain ⟨p, hp, ep⟩ := List.mem_iff_getElem.1 hv
      have ev : vAt (tAt W.L j).F p = v := by unfold vAt; rw [List.getD_eq_getElem?_getD, List.getElem?_eq_getElem hp, ep]; rfl
      obtain ⟨a, b⟩ := h.fld hj2 hp (by rw [ev]; exact ho)
      rw [ev] at a b
      rw [fA_more l _ a b]
    · rw [if_neg ho, if_neg ho]
  have hg := check_regs h.chk
  unfold regsB at hg
  simp only [Bool.and_eq_true, Bool.or_eq_true, decide_eq_true_eq] at hg
  obtain ⟨g1, g2, g3, g4, _, g6, _⟩ := hg
  have ok : ∀ x, InR W.R x → (x = 0 ∨ thereB W x = true) → toldN (fA (atL (l ++ [false]))) x = toldN (fA (atL l)) x := fun x hx ht => by
    unfold toldN
    by_cases e : x = 0
    · rw [if_pos e, if_pos e]
    · rw [if_neg e, if_neg e]
      rcases ht with ht | ht
      · exact absurd ht e
      · obtain ⟨a, b⟩ := h.reg hx ht
        exact fA_more l x (by omega) b
  have hR : toldR (fA (atL (l ++ [false]))) (moreW W).R = toldR (fA (atL l)) W.R := by
    show toldR _ W.R = _
    unfold toldR
    rw [ok _ (.inl rfl) g1, ok _ (.inr (.inl rfl)) g2, List.map_congr_left (fun x hx => ok x (.inr (.inr (.inl hx))) (.inr (thereL_all g3 x hx))),
      List.map_congr_left (fun x hx => ok x (.inr (.inr (.inr (.inl hx)))) (.inr (thereL_all g4 x hx)))]
    rw [List.map_congr_left (f := toldP (fA (atL (l ++ [false])))) (g := toldP (fA (atL l))) (fun p hp => by
      unfold waitB at g6
      obtain ⟨q, hq, hqv⟩ := List.mem_iff_getElem.1 hp
      have f := (allTo_iff _ _).1 g6 q hq
      unfold wAt at f
      rw [List.getD_eq_getElem?_getD, List.getElem?_eq_getElem hq, hqv] at f
      rw [Bool.and_eq_true] at f
      unfold toldP
      rw [ok p.1 (.inr (.inr (.inr (.inr ⟨p, hp, .inl rfl⟩)))) (.inr f.1), ok p.2 (.inr (.inr (.inr (.inr ⟨p, hp, .inr rfl⟩)))) (.inr f.2)])]
  unfold canonW
  rw [hL, hR]; rfl
end
end Go.Proofs.Ytadhkmplhgcgkaa.World
namespace Go.Proofs.Ytadhkmplhgcgkaa.World
open Go.RowKit Go.Proofs.Ytadhkmplhgcgkaa.Plain
set_option linter.unusedVariables false
def rkN (l : List Bool) (x : Int) : Int := (rankL l x.toNat : Int)
def rkV (l : List Bool) (v : PV) : PV := if v.obj = true then ⟨true, rkN l v.n⟩ else v
def rkT (l : List Bool) (t : PT) : PT := { t with cls := rkN l t.cls, F := t.F.map (rkV l) }
def rkR (l : List Bool) (R : PR) : PR := { R with proc := rkN l R.proc, frame := rkN l R.frame, ready := R.ready.map (rkN l), wait := R.wait.map (fun p => (rkN l p.1, rkN l p.2)), due := R.due.map (rkN l) }
section
variable {W : PW} {l : List Bool}
theorem rk_told (h : CanW W l) {x : Int} (hx : InR W.R x) (ht : x = 0 ∨ thereB W x = true) : rkN l x = toldN (fA (atL l)) x := by
  unfold toldN rkN
  by_cases e : x = 0
  · rw [if_pos e, e]; rfl
  · rw [if_neg e]
    rcases ht with ht | ht
    · exact absurd ht e
    · obtain ⟨a, b⟩ := h.reg hx ht
      rw [fA_rank l x (by omega) b]
theorem rk_thing (h : CanW W l) {i : Nat} (hs : sB l i = true) : rkT l (tAt W.L i) = canT (atL l) (tAt W.L i) := by
  unfold rkT canT
  obtain ⟨c0, cs⟩ := h.cls hs
  have e1 : rkN l (tAt W.L i).cls = fA (atL l) (tAt W.L i).cls := by unfold rkN; rw [fA_rank l _ c0 cs]
  rw [e1]
  congr 1
  refine List.map_congr_left (fun v hv => ?_)
  unfold rkV canV
  by_cases ho : v.obj = true
  · rw [if_pos ho, if_pos ho]
    obtain ⟨p, hp, ep⟩ := List.mem_iff_getElem.1 hv
    have ev : vAt (tAt W.L i).F p = v := by unfold vAt; rw [List.getD_eq_getElem?_getD, List.getElem?_eq_getElem hp, ep]; rfl
    obtain ⟨a, b⟩ := h.fld hs hp (by rw [ev]; exact ho)
    rw [ev] at a b
    unfold rkN
    rw [fA_rank l _ a b]
  · rw [if_neg ho, if_neg ho]
theorem rk_regs (h : CanW W l) : rkR l W.R = toldR (fA (atL l)) W.R := by
  have hg := check_regs h.chk
  unfold regsB at hg
  simp only [Bool.and_eq_true, Bool.or_eq_true, decide_eq_true_eq] at hg
  obtain ⟨g1, g2, g3, g4, _, g6, _⟩ := hg
  have ok : ∀ x, InR W.R x → (x = 0 ∨ thereB W x = true) → rkN l x = toldN (fA (atL l)) x := fun x hx ht => rk_told h hx ht
  unfold rkR toldR
  rw [ok _ (.inl rfl) g1, ok _ (.inr (.inl rfl)) g2, List.map_congr_left (fun x hx => ok x (.inr (.inr (.inl hx))) (.inr (thereL_all g3 x hx))),
    List.map_congr_left (fun x hx => ok x (.inr (.inr (.inr (.inl hx)))) (.inr (thereL_all g4 x hx)))]
  congr 1
  refine List.map_congr_left (fun p hp => ?_)
  unfold waitB at g6
  obtain ⟨q, hq, hqv⟩ := List.mem_iff_getElem.1 hp
  have f := (allTo_iff _ _).1 g6 q hq
  unfold wAt at f
  rw [List.getD_eq_getElem?_getD, List.getElem?_eq_getElem hq, hqv] at f
  rw [Bool.and_eq_true] at f
  unfold toldP
  rw [ok p.1 (.inr (.inr (.inr (.inr ⟨p, hp, .inl rfl⟩)))) (.inr f.1), ok p.2 (.inr (.inr (.inr (.inr ⟨p, hp, .inr rfl⟩)))) (.inr f.2)]
end
end Go.Proofs.Ytadhkmplhgcgkaa.World
