/-
  CanonPlain, CanonPlain2, CanonPlain3, CanonPlain4, CanonPlain5, CanonPlain6, Few, CanonLawPlain, CanonLaw, OpenWorld, as one text (a claim has at most 60 files).
-/
import Derived.Test.YtadhkmplhgcgkaaReach11
import Derived.Test.YtadhkmplhgcgkaaAwake8
import Derived.Test.YtadhkmplhgcgkaaRefPlain
import Derived.Test.YtadhkmplhgcgkaaFixed
import Derived.Test.YtadhkmplhgcgkaaImage4
import Derived.Test.YtadhkmplhgcgkaaBase4
import Derived.Deep.DeepCutAuto
import Derived.Test.YtadhkmplhgcgkaaEqB
import Derived.Deep.RegionHeld3
import Derived.Test.YtadhkmplhgcgkaaImage
import Derived.Deep.Slices
import Derived.Deep.Fields
import Derived.ProofKit
import Derived.OpenShut
namespace Go.Proofs.Ytadhkmplhgcgkaa.World
open Go.RowKit Go.Proofs.Ytadhkmplhgcgkaa.Plain
set_option linter.unusedVariables false
/-! ### ranks -/
def keptL (l : List Bool) (n : Nat) : List Nat := (List.range n).filter (fun j => sB l j)
theorem kept_succ (l : List Bool) (n : Nat) : keptL l (n + 1) = keptL l n ++ (if sB l n = true then [n] else []) := by
  unfold keptL
  rw [List.range_succ, List.filter_append]
  congr 1
  by_cases h : sB l n = true
  · rw [if_pos h, List.filter_cons_of_pos h]; rfl
  · rw [if_neg h, List.filter_cons_of_neg h]; rfl
theorem kept_len (l : List Bool) : ∀ n, n ≤ l.length → (keptL l n).length = rankL l n := by
  intro n
  induction n with
  | zero => intro _; rfl
  | succ n ih =>
    intro hn
    rw [kept_succ, List.length_append, ih (by omega), rankL_succ l n (by omega)]
    split <;> rfl
theorem kept_at (l : List Bool) : ∀ n, n ≤ l.length → ∀ i, i < n → sB l i = true → rankL l i < rankL l n ∧ (keptL l n).getD (rankL l i) 0 = i := by
  intro n
  induction n with
  | zero => intro _ i hi; omega
  | succ n ih =>
    intro hn i hi hs
    rw [rankL_succ l n (by omega), kept_succ]
    by_cases e : i = n
    · subst e
      rw [if_pos hs, if_pos hs]
      refine ⟨by omega, ?_⟩
      rw [List.getD_eq_getElem?_getD, List.getElem?_append_right (by rw [kept_len l i (by omega)]; exact Nat.le_refl _), kept_len l i (by omega)]
      simp
    · obtain ⟨h1, h2⟩ := ih (by omega) i (by omega) hs
      refine ⟨by omega, ?_⟩
      rw [List.getD_eq_getElem?_getD] at h2 ⊢
      rw [List.getElem?_append_left (by rw [kept_len l n (by omega)]; exact h1)]
      exact h2
theorem kept_mem (l : List Bool) : ∀ n, n ≤ l.length → ∀ q, q < rankL l n → ∃ i, i < n ∧ sB l i = true ∧ rankL l i = q := by
  intro n
  induction n with
  | zero => intro _ q hq; exact absurd hq (by rw [rankL_0]; omega)
  | succ n ih =>
    intro hn q hq
    rw [rankL_succ l n (by omega)] at hq
    by_cases h : q < rankL l n
    · obtain ⟨i, h1, h2, h3⟩ := ih (by omega) q h
      exact ⟨i, by omega, h2, h3⟩
    · by_cases hs : sB l n = true
      · rw [if_pos hs] at hq
        exact ⟨n, by omega, hs, by omega⟩
      · rw [if_neg hs] at hq; omega
theorem rank_mono (l : List Bool) (i : Nat) : ∀ j, i ≤ j → j ≤ l.length → rankL l i ≤ rankL l j := by
  intro j
  induction j with
  | zero =>
    intro h _
    have e : i = 0 := by omega
    subst e
    exact Nat.le_refl _
  | succ j ih =>
    intro h hj
    by_cases e : i = j + 1
    · subst e; exact Nat.le_refl _
    · have := ih (by omega) (by omega)
      rw [rankL_succ l j (by omega)]
      omega
theorem rank_lt (l : List Bool) {i j : Nat} (h : i < j) (hj : j ≤ l.length) (hs : sB l i = true) : rankL l i < rankL l j := by
  have a := rank_mono l (i + 1) j h hj
  rw [rankL_succ l i (by omega), if_pos hs] at a
  omega
theorem rank_inj (l : List Bool) {i j : Nat} (hi : sB l i = true) (hj : sB l j = true) (e : rankL l i = rankL l j) : i = j := by
  rcases Nat.lt_trichotomy i j with h | h | h
  · have := rank_lt l h (Nat.le_of_lt (sB_lt hj)) hi; omega
  · exact h
  · have := rank_lt l h (Nat.le_of_lt (sB_lt hi)) hj; omega
theorem rank_first (l : List Bool) (h : ∀ i, i < 23 → sB l i = true) : ∀ i, i ≤ 23 → rankL l i = i := by
  intro i
  induction i with
  | zero => intro _; rfl
  | succ i ih =>
    intro hi
    rw [rankL_succ l i (sB_lt (h i (by omega))), ih (by omega), if_pos (h i (by omega))]
theorem fA_rank (l : List Bool) (n : Int) (h0 : 0 ≤ n) (hs : sB l n.toNat = true) : fA (atL l) n = (rankL l n.toNat : Int) := by
  have hl := sB_lt hs
  unfold fA atL atK
  rw [List.getD_eq_getElem?_getD, List.getElem?_map, List.getElem?_range hl]
  show (if n.toNat < l.length ∧ sB l n.toNat = true then (rankL l n.toNat : Int) else 0) = _
  rw [if_pos ⟨hl, hs⟩]
/-! ### what is come to is alive -/
theorem live_range {W : PW} {i : Int} (h : liveB W i = true) : 0 ≤ i ∧ i < W.L.length := by
  unfold liveB at h
  rw [Bool.and_eq_true] at h
  exact of_decide_eq_true h.1
theorem check_one {W : PW} (h : checkB W = true) {i : Nat} (hi : i < W.L.length) : oneB W i = true := by
  unfold checkB at h
  simp only [Bool.and_eq_true] at h
  have hT := h.2.2.1
  unfold thingsB at hT
  rw [Bool.and_eq_true] at hT
  exact (allTo_iff _ _).1 hT.1 i hi
theorem root_live {W : PW} (h : checkB W = true) : ∀ r ∈ rootsOf W.R, liveB W r = true := by
  have hl := check_len h
  have hg := check_regs h
  unfold regsB at hg
  simp only [Bool.and_eq_true, Bool.or_eq_true, decide_eq_true_eq] at hg
  obtain ⟨g1, g2, g3, g4, _, g6, _⟩ := hg
  have A : ∀ y ∈ listOf W.R, y = 0 ∨ thereB W y = true := listOf_all (P := fun y => y = 0 ∨ thereB W y = true) g1 g2 (fun y hy => .inr (thereL_all g3 y hy)) (fun p hp => by
    unfold waitB at g6
    obtain ⟨q, hq, hqv⟩ := List.mem_iff_getElem.1 hp
    have f := (allTo_iff _ _).1 g6 q hq
    unfold wAt at f
    rw [List.getD_eq_getElem?_getD, List.getElem?_eq_getElem hq, hqv] at f
    rw [Bool.and_eq_true] at f
    exact ⟨.inr f.1, .inr f.2⟩) (fun y hy => .inr (thereL_all g4 y hy))
  have first : ∀ i : Nat, i < 23 → liveB W i = true := fun i hi => by
    obtain ⟨_, _, _, _, _, f⟩ := (one_iff W i).1 (check_one h (by omega))
    cases hv : liveB W i with
    | true => rfl
    | false => have := f hv; omega
  intro r hr
  unfold rootsOf at hr
  rcases List.mem_append.1 hr with q | q
  · unfold upTo at q
    obtain ⟨k, hk, rfl⟩ := List.mem_map.1 q
    exact first k (List.mem_range.1 hk)
  · obtain ⟨q1, q2⟩ := List.mem_filter.1 q
    have q2 := of_decide_eq_true q2
    rcases A r q1 with e | e
    · omega
    · unfold thereB at e
      rw [Bool.and_eq_true] at e
      exact e.2
theorem next_live {W : PW} (h : checkB W = true) {weak : Bool} {i : Nat} (hi : i < W.L.length) (hl : liveB W i = true) : ∀ j ∈ nxW W weak i, liveB W j = true := by
  obtain ⟨_, _, _, _, e, _⟩ := (one_iff W i).1 (check_one h hi)
  obtain ⟨e1, e2⟩ := e hl
  unfold classB at e1
  rw [Bool.and_eq_true] at e1
  intro j hj
  unfold nxW nextsOf at hj
  rcases List.mem_cons.1 hj with q | q
  · subst q; exact e1.1
  · by_cases g : goesOn weak (tAt W.L i) = true
    · rw [if_pos g] at q
      unfold objsOf at q
      obtain ⟨v, hv, rfl⟩ := List.mem_map.1 q
      obtain ⟨hv1, hv2⟩ := List.mem_filter.1 hv
      obtain ⟨p, hp, hpv⟩ := List.mem_iff_getElem.1 hv1
      unfold liveF at e2
      have f := (allTo_iff _ _).1 e2 p hp
      have ev : vAt (tAt W.L i).F p = v := by unfold vAt; rw [List.getD_eq_getElem?_getD, List.getElem?_eq_getElem hp, hpv]; rfl
      rw [ev, hv2] at f
      simpa using f
    · rw [if_neg g] at q; cases q
theorem rch_live {W : PW} (h : checkB W = true) {weak : Bool} {i : Nat} (hr : Rch (nxW W weak) (rootsOf W.R) i) : liveB W i = true := by
  induction hr with
  | @root r hm =>
    have a := root_live h r hm
    have b := live_range a
    rw [Int.toNat_of_nonneg b.1]; exact a
  | @step i j hr hj ih =>
    have a := next_live h (rch_lt h hr) ih j hj
    have b := live_range a
    rw [Int.toNat_of_nonneg b.1]; exact a
/-- what is come to without weak things' fields is come to -/
theorem rch_weak {W : PW} {i : Nat} (hr : Rch (nxW W false) (rootsOf W.R) i) : Rch (nxW W true) (rootsOf W.R) i := by
  induction hr with
  | root hm => exact .root hm
  | @step i j hr hj ih =>
    refine .step ih ?_
    unfold nxW nextsOf at hj ⊢
    rcases List.mem_cons.1 hj with q | q
    · rw [q]; exact List.mem_cons_self
    · by_cases g : goesOn false (tAt W.L i) = true
      · rw [if_pos g] at q
        have g2 : goesOn true (tAt W.L i) = true := by
          unfold goesOn at g ⊢
          simp only [Bool.and_false, Bool.or_false] at g
          rw [g]; rfl
        rw [if_pos g2]
        exact List.mem_cons_of_mem _ q
      · rw [if_neg g] at q; cases q
end Go.Proofs.Ytadhkmplhgcgkaa.World
namespace Go.Proofs.Ytadhkmplhgcgkaa.World
open Go.RowKit Go.Proofs.Ytadhkmplhgcgkaa.Plain
set_option linter.unusedVariables false
section
variable {W : PW} {l : List Bool}
structure CanW (W : PW) (l : List Bool) : Prop where
  chk : checkB W = true
  rch : RchL W.L.length (nxW W true) (rootsOf W.R) l
theorem CanW.len (h : CanW W l) : l.length = W.L.length := h.rch.1
theorem CanW.sb (h : CanW W l) {i : Nat} (hr : Rch (nxW W true) (rootsOf W.R) i) : sB l i = true := (h.rch.2 i).2 hr
theorem CanW.first (h : CanW W l) : ∀ i, i < 23 → sB l i = true := fun i hi => h.sb (rch_root hi)
theorem CanW.next (h : CanW W l) {i : Nat} (hs : sB l i = true) {j : Int} (hj : j ∈ nxW W true i) : 0 ≤ j ∧ sB l j.toNat = true :=
  ⟨(nexts_in h.chk (by have := sB_lt hs; rw [h.len] at this; exact this) j hj).1, h.sb (.step ((h.rch.2 i).1 hs) hj)⟩
theorem CanW.live (h : CanW W l) {i : Nat} (hs : sB l i = true) : liveB W i = true := rch_live h.chk ((h.rch.2 i).1 hs)
/-- how many are kept -/
def cnt (W : PW) (l : List Bool) : Nat := rankL l W.L.length
theorem canL_kept (h : CanW W l) : (canonW W l).L = (keptL l W.L.length).map (fun j => canT (atL l) (tAt W.L j)) := rfl
theorem CanW.clen (h : CanW W l) : (canonW W l).L.length = cnt W l := by
  rw [canL_kept h, List.length_map, kept_len l _ (by rw [h.len]; exact Nat.le_refl _)]; rfl
theorem CanW.at_ (h : CanW W l) {i : Nat} (hs : sB l i = true) : tAt (canonW W l).L (rankL l i) = canT (atL l) (tAt W.L i) := by
  have hi := sB_lt hs
  rw [h.len] at hi
  obtain ⟨a, b⟩ := kept_at l W.L.length (by rw [h.len]; exact Nat.le_refl _) i hi hs
  have hk := kept_len l W.L.length (by rw [h.len]; exact Nat.le_refl _)
  rw [canL_kept h]
  unfold tAt
  rw [List.getD_eq_getElem?_getD, List.getElem?_map, List.getElem?_eq_getElem (by rw [hk]; exact a)]
  rw [List.getD_eq_getElem?_getD, List.getElem?_eq_getElem (by rw [hk]; exact a)] at b
  show canT _ (tAt W.L _) = _
  have b : (keptL l W.L.length)[rankL l i]'(by rw [hk]; exact a) = i := b
  rw [b]; rfl
theorem CanW.some (h : CanW W l) {q : Nat} (hq : q < cnt W l) : ∃ i, i < W.L.length ∧ sB l i = true ∧ rankL l i = q := kept_mem l W.L.length (by rw [h.len]; exact Nat.le_refl _) q hq
theorem CanW.rank_in (h : CanW W l) {i : Nat} (hs : sB l i = true) : rankL l i < cnt W l := rank_lt l (by have := sB_lt hs; rw [h.len] at this; exact this) (by rw [h.len]; exact Nat.le_refl _) hs
theorem CanW.fa (h : CanW W l) {n : Int} (h0 : 0 ≤ n) (hs : sB l n.toNat = true) : 0 ≤ fA (atL l) n ∧ fA (atL l) n < (cnt W l : Int) := by
  rw [fA_rank l n h0 hs]
  have := h.rank_in hs
  omega
theorem CanW.c23 (h : CanW W l) : 23 ≤ cnt W l ∧ cnt W l ≤ W.L.length := by
  have hl := check_len h.chk
  have a := rank_mono l 23 W.L.length hl.1 (by rw [h.len]; exact Nat.le_refl _)
  rw [rank_first l h.first 23 (Nat.le_refl _)] at a
  exact ⟨a, rankL_le l _⟩
/-- hashes rise -/
theorem hash_lt (h : checkB W = true) : ∀ j, j < W.L.length → ∀ i, i < j → (tAt W.L i).hash < (tAt W.L j).hash := by
  intro j
  induction j with
  | zero => intro _ i hi; omega
  | succ j ih =>
    intro hj i hi
    have a := ((one_iff W (j + 1)).1 (check_one h hj)).1
    rw [prevH_succ] at a
    by_cases e : i = j
    · subst e; exact a
    · have := ih (by omega) i (by omega); omega
theorem hash_last (h : checkB W = true) : ∀ i, i < W.L.length → (tAt W.L i).hash ≤ W.last ∧ W.last ≤ 3000 := by
  intro i hi
  have hh := h
  unfold checkB at hh
  simp only [Bool.and_eq_true] at hh
  have hT := hh.2.2.1
  unfold thingsB at hT
  simp only [Bool.and_eq_true, decide_eq_true_eq] at hT
  obtain ⟨_, h1, h2⟩ := hT
  obtain ⟨k, hk⟩ : ∃ k, W.L.length = k + 1 := ⟨W.L.length - 1, by omega⟩
  rw [hk, prevH_succ] at h1
  refine ⟨?_, h2⟩
  by_cases e : i = k
  · subst e; exact h1
  · have := hash_lt h k (by omega) i (by omega); omega
end
end Go.Proofs.Ytadhkmplhgcgkaa.World
namespace Go.Proofs.Ytadhkmplhgcgkaa.World
open Go.RowKit Go.Proofs.Ytadhkmplhgcgkaa.Plain
set_option linter.unusedVariables false
theorem vAt_map (F : List PV) (f : PV → PV) (j : Nat) (hj : j < F.length) : vAt (F.map f) j = f (vAt F j) := by
  unfold vAt
  rw [List.getD_eq_getElem?_getD, List.getElem?_map, List.getD_eq_getElem?_getD, List.getElem?_eq_getElem hj]; rfl
theorem canV_num (a : List Int) (v : PV) (lo hi : Int) : numB (canV a v) lo hi = numB v lo hi := by
  unfold canV numB
  by_cases h : v.obj = true
  · rw [if_pos h]; simp [h]
  · rw [if_neg h]
theorem can_cls (a : List Int) (t : PT) : isClsB (canT a t) = isClsB t := by
  unfold isClsB
  show (decide (t.fmt = 1) && (decide (5 ≤ (t.F.map (canV a)).length) && (numB (vAt (t.F.map (canV a)) 3) 0 60 && numB (vAt (t.F.map (canV a)) 4) 1 3))) = _
  rw [List.length_map]
  by_cases h : 5 ≤ t.F.length
  · rw [vAt_map _ _ 3 (by omega), vAt_map _ _ 4 (by omega), canV_num, canV_num]
  · rw [decide_eq_false h]; simp
theorem mem_objs {F : List PV} {p : Nat} (hp : p < F.length) (ho : (vAt F p).obj = true) : (vAt F p).n ∈ objsOf F := by
  unfold objsOf
  have e : vAt F p = F[p] := by unfold vAt; rw [List.getD_eq_getElem?_getD, List.getElem?_eq_getElem hp]; rfl
  rw [e] at ho ⊢
  exact List.mem_map.2 ⟨F[p], List.mem_filter.2 ⟨List.getElem_mem hp, ho⟩, rfl⟩
section
variable {W : PW} {l : List Bool}
theorem CanW.cls (h : CanW W l) {i : Nat} (hs : sB l i = true) : 0 ≤ (tAt W.L i).cls ∧ sB l (tAt W.L i).cls.toNat = true :=
  h.next hs (by unfold nxW nextsOf; exact List.mem_cons_self)
theorem CanW.fld (h : CanW W l) {i : Nat} (hs : sB l i = true) {p : Nat} (hp : p < (tAt W.L i).F.length) (ho : (vAt (tAt W.L i).F p).obj = true) : 0 ≤ (vAt (tAt W.L i).F p).n ∧ sB l (vAt (tAt W.L i).F p).n.toNat = true := by
  have hi := sB_lt hs
  rw [h.len] at hi
  have hsh := (check_thing h.chk hi).2
  refine h.next hs ?_
  unfold nxW nextsOf
  have g : goesOn true (tAt W.L i) = true := by
    unfold goesOn
    unfold shapeB at hsh
    by_cases f3 : (tAt W.L i).fmt = 3
    · rw [if_pos f3, Bool.and_eq_true, decide_eq_true_eq] at hsh
      omega
    · rw [if_neg f3] at hsh
      by_cases f12 : (tAt W.L i).fmt = 1 ∨ (tAt W.L i).fmt = 2
      · rcases f12 with f | f <;> rw [f] <;> rfl
      · rw [if_neg f12] at hsh; cases hsh
  rw [if_pos g]
  exact List.mem_cons_of_mem _ (mem_objs hp ho)
theorem can_shape (h : CanW W l) {i : Nat} (hs : sB l i = true) : shapeB (cnt W l) (canT (atL l) (tAt W.L i)) = true := by
  have hi := sB_lt hs
  rw [h.len] at hi
  have hsh := (check_thing h.chk hi).2
  unfold shapeB at hsh ⊢
  show (if (tAt W.L i).fmt = 3 then decide (((tAt W.L i).F.map (canV (atL l))).length = 0) && decide ((tAt W.L i).B.size ≤ 200)
    else if (tAt W.L i).fmt = 1 ∨ (tAt W.L i).fmt = 2 then decide ((tAt W.L i).B.size = 0) && (decide (((tAt W.L i).F.map (canV (atL l))).length ≤ 60) && fldsB (cnt W l) ((tAt W.L i).F.map (canV (atL l)))) else false) = true
  rw [List.length_map]
  by_cases f3 : (tAt W.L i).fmt = 3
  · rw [if_pos f3] at hsh ⊢; exact hsh
  · rw [if_neg f3] at hsh ⊢
    by_cases f12 : (tAt W.L i).fmt = 1 ∨ (tAt W.L i).fmt = 2
    · rw [if_pos f12] at hsh ⊢
      simp only [Bool.and_eq_true] at hsh ⊢
      refine ⟨hsh.1, hsh.2.1, ?_⟩
      unfold fldsB
      rw [List.length_map, allTo_iff]
      intro p hp
      rw [vAt_map _ _ p hp]
      have f := (allTo_iff _ _).1 (show allTo (fun j => fldB W.L.length (vAt (tAt W.L i).F j)) (tAt W.L i).F.length = true from hsh.2.2) p hp
      unfold canV fldB
      by_cases ho : (vAt (tAt W.L i).F p).obj = true
      · rw [if_pos ho]
        obtain ⟨a, b⟩ := h.fld hs hp ho
        exact decide_eq_true (h.fa a b)
      · rw [if_neg ho, if_neg ho]
        unfold fldB at f
        rw [if_neg ho] at f
        exact f
    · rw [if_neg f12] at hsh; cases hsh
theorem can_live (h : CanW W l) {n : Int} (h0 : 0 ≤ n) (hs : sB l n.toNat = true) : liveB (canonW W l) (fA (atL l) n) = true := by
  rw [live_nil (show (canonW W l).dead = [] from rfl), h.clen]
  exact decide_eq_true (h.fa h0 hs)
theorem can_prev (h : CanW W l) {i : Nat} (hs : sB l i = true) : prevH (canonW W l).L (rankL l i) < (tAt W.L i).hash := by
  have hi := sB_lt hs
  rw [h.len] at hi
  cases hq : rankL l i with
  | zero => exact one_pos W W.L.length (fun j hj => check_one h.chk hj) i hi
  | succ q =>
    rw [prevH_succ]
    obtain ⟨j, hj, hjs, hjr⟩ := h.some (q := q) (by have := h.rank_in hs; omega)
    rw [← hjr, h.at_ hjs]
    show (tAt W.L j).hash < _
    refine hash_lt h.chk i hi j ?_
    rcases Nat.lt_trichotomy j i with z | z | z
    · exact z
    · subst z; omega
    · have := rank_lt l z (by rw [h.len]; omega) hs; omega
theorem can_one (h : CanW W l) {q : Nat} (hq : q < cnt W l) : oneB (canonW W l) q = true := by
  obtain ⟨i, hi, hs, hr⟩ := h.some hq
  subst hr
  obtain ⟨o1, o2, o3, o4, o5, o6⟩ := (one_iff W i).1 (check_one h.chk hi)
  obtain ⟨c0, cs⟩ := h.cls hs
  have hci := sB_lt cs
  rw [h.len] at hci
  rw [one_iff, h.at_ hs]
  refine ⟨can_prev h hs, o2, ?_, by rw [h.clen]; exact can_shape h hs, fun _ => ⟨?_, ?_⟩, fun hl => ?_⟩
  · rw [h.clen]; exact h.fa c0 cs
  · unfold classB
    show (liveB (canonW W l) (fA (atL l) (tAt W.L i).cls) && isClsB (tAt (canonW W l).L (fA (atL l) (tAt W.L i).cls).toNat)) = true
    rw [can_live h c0 cs, fA_rank l _ c0 cs, Int.toNat_natCast, h.at_ cs, can_cls]
    have := (o5 (h.live hs)).1
    unfold classB at this
    rw [Bool.and_eq_true] at this
    rw [this.2]; rfl
  · unfold liveF
    show allTo _ ((tAt W.L i).F.map (canV (atL l))).length = true
    rw [List.length_map, allTo_iff]
    intro p hp
    show (!(vAt ((tAt W.L i).F.map (canV (atL l))) p).obj || liveB (canonW W l) (vAt ((tAt W.L i).F.map (canV (atL l))) p).n) = true
    rw [vAt_map _ _ p hp]
    unfold canV
    by_cases ho : (vAt (tAt W.L i).F p).obj = true
    · rw [if_pos ho]
      obtain ⟨a, b⟩ := h.fld hs hp ho
      show (!true || liveB _ (fA (atL l) _)) = true
      rw [can_live h a b]; rfl
    · rw [if_neg ho]
      simp only [Bool.not_eq_true] at ho
      rw [ho]; rfl
  · have : liveB (canonW W l) ((rankL l i : Nat) : Int) = true := by
      rw [live_nil (show (canonW W l).dead = [] from rfl), h.clen]
      exact decide_eq_true ⟨by omega, by have := h.rank_in hs; omega⟩
    rw [this] at hl; cases hl
end
end Go.Proofs.Ytadhkmplhgcgkaa.World
namespace Go.Proofs.Ytadhkmplhgcgkaa.World
open Go.RowKit Go.Proofs.Ytadhkmplhgcgkaa.Plain
set_option linter.unusedVariables false
/-! ### what registers lead to -/
theorem add1_old {l : List Int} {x y : Int} (h : y ∈ l) : y ∈ add1 l x := by
  unfold add1; split
  · exact List.mem_append_left _ h
  · exact h
theorem add1_self {l : List Int} {x : Int} (h : x ≠ 0) : x ∈ add1 l x := by
  unfold add1; split
  · simp
  · rename_i c
    have : l.contains x = true := by
      cases hc : l.contains x with
      | true => rfl
      | false => exact absurd ⟨h, hc⟩ c
    exact List.contains_iff_mem.1 this
theorem fold_old (l : List Int) : ∀ l0 : List Int, ∀ y ∈ l0, y ∈ l.foldl add1 l0 := by
  induction l with
  | nil => intro l0 y h; exact h
  | cons a l ih => intro l0 y h; exact ih _ y (add1_old h)
theorem fold_new (l : List Int) : ∀ l0 : List Int, ∀ y ∈ l, y ≠ 0 → y ∈ l.foldl add1 l0 := by
  induction l with
  | nil => intro l0 y h; cases h
  | cons a l ih =>
    intro l0 y h hy
    rcases List.mem_cons.1 h with e | e
    · subst e; exact fold_old l _ _ (add1_self hy)
    · exact ih _ y e hy
theorem fold2_old (l : List (Int × Int)) : ∀ l0 : List Int, ∀ y ∈ l0, y ∈ l.foldl (fun l p => add1 (add1 l p.1) p.2) l0 := by
  induction l with
  | nil => intro l0 y h; exact h
  | cons a l ih => intro l0 y h; exact ih _ y (add1_old (add1_old h))
theorem fold2_new (l : List (Int × Int)) : ∀ l0 : List Int, ∀ p ∈ l, (p.1 ≠ 0 → p.1 ∈ l.foldl (fun l p => add1 (add1 l p.1) p.2) l0) ∧ (p.2 ≠ 0 → p.2 ∈ l.foldl (fun l p => add1 (add1 l p.1) p.2) l0) := by
  induction l with
  | nil => intro l0 p h; cases h
  | cons a l ih =>
    intro l0 p h
    rcases List.mem_cons.1 h with e | e
    · subst e
      exact ⟨fun hp => fold2_old l _ _ (add1_old (add1_self hp)), fun hp => fold2_old l _ _ (add1_self hp)⟩
    · exact ih _ p e
/-- one of the places that registers hold -/
def InR (R : PR) (x : Int) : Prop := x = R.proc ∨ x = R.frame ∨ x ∈ R.ready ∨ x ∈ R.due ∨ ∃ p ∈ R.wait, x = p.1 ∨ x = p.2
theorem mem_listOf {R : PR} {x : Int} (h : InR R x) (hx : x ≠ 0) : x ∈ listOf R := by
  unfold listOf
  rcases h with h | h | h | h | ⟨p, hp, h⟩
  · exact fold_old _ _ _ (fold2_old _ _ _ (fold_old _ _ _ (add1_old (by rw [h]; exact add1_self (by rw [← h]; exact hx)))))
  · exact fold_old _ _ _ (fold2_old _ _ _ (fold_old _ _ _ (by rw [h]; exact add1_self (by rw [← h]; exact hx))))
  · exact fold_old _ _ _ (fold2_old _ _ _ (fold_new _ _ _ h hx))
  · exact fold_new _ _ _ h hx
  · have q := fold2_new R.wait (R.ready.foldl add1 (add1 (add1 [] R.proc) R.frame)) p hp
    rcases h with h | h
    · subst h; exact fold_old _ _ _ (q.1 hx)
    · subst h; exact fold_old _ _ _ (q.2 hx)
theorem listOf_in {R : PR} : ∀ x ∈ listOf R, InR R x :=
  listOf_all (P := InR R) (.inl rfl) (.inr (.inl rfl)) (fun y hy => .inr (.inr (.inl hy))) (fun p hp => ⟨.inr (.inr (.inr (.inr ⟨p, hp, .inl rfl⟩))), .inr (.inr (.inr (.inr ⟨p, hp, .inr rfl⟩)))⟩) (fun y hy => .inr (.inr (.inr (.inl hy))))
section
variable {W : PW} {l : List Bool}
theorem CanW.reg (h : CanW W l) {x : Int} (hx : InR W.R x) (ht : thereB W x = true) : 0 < x ∧ sB l x.toNat = true := by
  have r := there_in ht
  have h0 : x ≠ 0 := by
    unfold thereB at ht
    rw [Bool.and_eq_true] at ht
    simpa using ht.1
  refine ⟨by omega, ?_⟩
  by_cases h23 : x < 23
  · exact h.first _ (by omega)
  · refine h.sb (.root ?_)
    unfold rootsOf
    exact List.mem_append_right _ (List.mem_filter.2 ⟨mem_listOf hx h0, decide_eq_true (by omega)⟩)
theorem can_there (h : CanW W l) {x : Int} (hx : InR W.R x) (ht : thereB W x = true) : toldN (fA (atL l)) x = (rankL l x.toNat : Int) ∧ 0 < (rankL l x.toNat : Int) ∧ thereB (canonW W l) (toldN (fA (atL l)) x) = true := by
  obtain ⟨h0, hs⟩ := h.reg hx ht
  have e : toldN (fA (atL l)) x = (rankL l x.toNat : Int) := by
    unfold toldN
    rw [if_neg (by omega), fA_rank l x (by omega) hs]
  have p : 0 < rankL l x.toNat := by
    have := rank_lt l (i := 0) (j := x.toNat) (by omega) (Nat.le_of_lt (sB_lt hs)) (h.first 0 (by omega))
    omega
  refine ⟨e, by omega, ?_⟩
  rw [e]
  unfold thereB
  rw [decide_eq_false (by omega), live_nil (show (canonW W l).dead = [] from rfl), h.clen, decide_eq_true ⟨by omega, by have := h.rank_in hs; omega⟩]; rfl
theorem can_regs (h : CanW W l) : regsB (canonW W l) = true := by
  have hg := check_regs h.chk
  unfold regsB at hg ⊢
  simp only [Bool.and_eq_true, Bool.or_eq_true, decide_eq_true_eq] at hg ⊢
  obtain ⟨g1, g2, g3, g4, g5, g6, g7, g8⟩ := hg
  have one : ∀ x, InR W.R x → (x = 0 ∨ thereB W x = true) → (toldN (fA (atL l)) x = 0 ∨ thereB (canonW W l) (toldN (fA (atL l)) x) = true) := fun x hx ht => by
    rcases ht with e | e
    · left; subst e; rfl
    · exact .inr (can_there h hx e).2.2
  have lst : ∀ L : List Int, (∀ x ∈ L, InR W.R x) → thereL W L = true → thereL (canonW W l) (L.map (toldN (fA (atL l)))) = true := fun L hL ht => by
    unfold thereL at ht ⊢
    rw [allTo_iff] at ht ⊢
    rw [List.length_map]
    intro j hj
    have t := ht j hj
    rw [List.getD_eq_getElem?_getD, List.getElem?_eq_getElem hj] at t
    rw [List.getD_eq_getElem?_getD, List.getElem?_map, List.getElem?_eq_getElem hj]
    exact (can_there h (hL _ (List.getElem_mem hj)) t).2.2
  refine ⟨one _ (.inl rfl) g1, one _ (.inr (.inl rfl)) g2, lst _ (fun x hx => .inr (.inr (.inl hx))) g3, lst _ (fun x hx => .inr (.inr (.inr (.inl hx)))) g4, ?_, ?_, ?_, g8⟩
  · show onceB (W.R.due.map (toldN (fA (atL l)))) = true
    unfold onceB at g5 ⊢
    rw [allTo_iff] at g5 ⊢
    rw [List.length_map]
    intro j hj
    have t := g5 j hj
    have mem : ∀ y ∈ W.R.due, InR W.R y ∧ thereB W y = true := fun y hy => ⟨.inr (.inr (.inr (.inl hy))), thereL_all g4 y hy⟩
    rw [List.getD_eq_getElem?_getD, List.getElem?_eq_getElem hj] at t
    rw [List.getD_eq_getElem?_getD, List.getElem?_map, List.getElem?_eq_getElem hj]
    show (!((W.R.due.map (toldN (fA (atL l)))).take j).contains (toldN (fA (atL l)) W.R.due[j])) = true
    have t : (!(W.R.due.take j).contains W.R.due[j]) = true := t
    rw [Bool.not_eq_true'] at t ⊢
    rw [← List.map_take]
    cases hc : ((W.R.due.take j).map (toldN (fA (atL l)))).contains (toldN (fA (atL l)) W.R.due[j]) with
    | false => rfl
    | true =>
      exfalso
      obtain ⟨y, hy, e⟩ := List.mem_map.1 (List.contains_iff_mem.1 hc)
      have my := mem y (List.mem_of_mem_take hy)
      have mx := mem _ (List.getElem_mem hj)
      obtain ⟨a1, a2⟩ := h.reg my.1 my.2
      obtain ⟨b1, b2⟩ := h.reg mx.1 mx.2
      rw [(can_there h my.1 my.2).1, (can_there h mx.1 mx.2).1] at e
      have := rank_inj l a2 b2 (by omega)
      have ee : y = W.R.due[j] := by omega
      rw [← ee] at t
      rw [List.contains_iff_mem.2 hy] at t
      cases t
  · show waitB (canonW W l) (W.R.wait.map (toldP (fA (atL l)))) = true
    unfold waitB at g6 ⊢
    rw [allTo_iff] at g6 ⊢
    rw [List.length_map]
    intro j hj
    have t := g6 j hj
    unfold wAt at t ⊢
    rw [List.getD_eq_getElem?_getD, List.getElem?_eq_getElem hj] at t
    rw [List.getD_eq_getElem?_getD, List.getElem?_map, List.getElem?_eq_getElem hj]
    rw [Bool.and_eq_true] at t ⊢
    exact ⟨(can_there h (.inr (.inr (.inr (.inr ⟨_, List.getElem_mem hj, .inl rfl⟩)))) t.1).2.2, (can_there h (.inr (.inr (.inr (.inr ⟨_, List.getElem_mem hj, .inr rfl⟩)))) t.2).2.2⟩
  · show (W.R.ready.map _).length ≤ 20 ∧ (W.R.wait.map _).length ≤ 20 ∧ (W.R.due.map _).length ≤ 3000 ∧ _
    rw [List.length_map, List.length_map, List.length_map]
    exact g7
theorem can_check (h : CanW W l) : checkB (canonW W l) = true := by
  have hl := check_len h.chk
  have c := h.c23
  have hc := h.chk
  unfold checkB at hc ⊢
  simp only [Bool.and_eq_true] at hc ⊢
  refine ⟨by rw [h.clen]; exact decide_eq_true (by omega), decide_eq_true (.inl rfl), ?_, ?_, can_regs h⟩
  · unfold thingsB
    rw [Bool.and_eq_true, Bool.and_eq_true, allTo_iff, h.clen]
    refine ⟨fun q hq => can_one h hq, decide_eq_true ?_, decide_eq_true ?_⟩
    · obtain ⟨k, hk⟩ : ∃ k, cnt W l = k + 1 := ⟨cnt W l - 1, by omega⟩
      rw [hk, prevH_succ]
      obtain ⟨i, hi, hs, hr⟩ := h.some (q := k) (by omega)
      rw [← hr, h.at_ hs]
      exact (hash_last h.chk i hi).1
    · exact (hash_last h.chk 0 (by omega)).2
  · have sp := hc.2.2.2.1
    unfold specB at sp ⊢
    rw [allTo_iff] at sp ⊢
    intro i hi
    have s := sp i hi
    have hs := h.first i hi
    have e := h.at_ hs
    rw [rank_first l h.first i (by omega)] at e
    have told : ∀ n : Int, 0 ≤ n → n < 23 → fA (atL l) n = n := fun n h0 h1 => by
      rw [fA_rank l n h0 (h.first _ (by omega)), rank_first l h.first _ (by omega)]; omega
    unfold spec1B at s ⊢
    rw [e]
    show (if i ≤ 2 then decide (fA (atL l) (tAt W.L i).cls = 3 + i) else if i ≤ 18 then decide (fA (atL l) (tAt W.L i).cls = 10) else if i < 22 then decide ((tAt W.L i).fmt = 3) else decide ((tAt W.L i).fmt = 1)) = true
    by_cases h2 : i ≤ 2
    · rw [if_pos h2] at s ⊢
      rw [of_decide_eq_true s, told _ (by omega) (by omega)]; exact decide_eq_true rfl
    · rw [if_neg h2] at s ⊢
      by_cases h18 : i ≤ 18
      · rw [if_pos h18] at s ⊢
        rw [of_decide_eq_true s, told _ (by omega) (by omega)]; exact decide_eq_true rfl
      · rw [if_neg h18] at s ⊢
        exact s
end
end Go.Proofs.Ytadhkmplhgcgkaa.World
namespace Go.Proofs.Ytadhkmplhgcgkaa.World
open Go.RowKit Go.Proofs.Ytadhkmplhgcgkaa.Plain
set_option linter.unusedVariables false
theorem objs_map (a : List Int) (F : List PV) : objsOf (F.map (canV a)) = (objsOf F).map (fA a) := by
  unfold objsOf
  induction F with
  | nil => rfl
  | cons v F ih =>
    rw [List.map_cons]
    unfold canV
    by_cases h : v.obj = true
    · rw [if_pos h, List.filter_cons_of_pos rfl, List.filter_cons_of_pos h, List.map_cons, List.map_cons, List.map_cons]
      congr 1
    · rw [if_neg h, List.filter_cons_of_neg h, List.filter_cons_of_neg h]
      exact ih
theorem inR_told {R : PR} {x : Int} (f : Int → Int) (h : InR R x) : InR (toldR f R) (toldN f x) := by
  rcases h with h | h | h | h | ⟨p, hp, h⟩
  · subst h; exact .inl rfl
  · subst h; exact .inr (.inl rfl)
  · exact .inr (.inr (.inl (List.mem_map.2 ⟨x, h, rfl⟩)))
  · exact .inr (.inr (.inr (.inl (List.mem_map.2 ⟨x, h, rfl⟩))))
  · refine .inr (.inr (.inr (.inr ⟨toldP f p, List.mem_map.2 ⟨p, hp, rfl⟩, ?_⟩)))
    rcases h with h | h
    · subst h; exact .inl rfl
    · subst h; exact .inr rfl
section
variable {W : PW} {l : List Bool}
theorem can_come (h : CanW W l) {i : Nat} (hr : Rch (nxW W true) (rootsOf W.R) i) : Rch (nxW (canonW W l) true) (rootsOf (canonW W l).R) (rankL l i) := by
  induction hr with
  | @root r hm =>
    by_cases h23 : r < 23
    · have r0 := (roots_in h.chk r hm).1
      rw [rank_first l h.first _ (by omega)]
      exact rch_root (by omega)
    · unfold rootsOf at hm
      rcases List.mem_append.1 hm with q | q
      · unfold upTo at q
        obtain ⟨k, hk, rfl⟩ := List.mem_map.1 q
        have := List.mem_range.1 hk
        omega
      · obtain ⟨q1, q2⟩ := List.mem_filter.1 q
        have ir := listOf_in r q1
        have tr : thereB W r = true := by
          have lv := root_live h.chk r (by unfold rootsOf; exact hm)
          unfold thereB
          rw [lv, decide_eq_false (by omega)]; rfl
        obtain ⟨e1, e2, e3⟩ := can_there h ir tr
        obtain ⟨a1, a2⟩ := h.reg ir tr
        have ic : InR (canonW W l).R (rankL l r.toNat : Int) := by rw [← e1]; exact inR_told _ ir
        have ge : 23 ≤ rankL l r.toNat := by
          have := rank_mono l 23 r.toNat (by omega) (Nat.le_of_lt (sB_lt a2))
          rw [rank_first l h.first 23 (Nat.le_refl _)] at this
          exact this
        have m : (rankL l r.toNat : Int) ∈ rootsOf (canonW W l).R := by
          unfold rootsOf
          exact List.mem_append_right _ (List.mem_filter.2 ⟨mem_listOf ic (by omega), decide_eq_true (by omega)⟩)
        have z := Rch.root (nx := nxW (canonW W l) true) m
        rw [Int.toNat_natCast] at z
        exact z
  | @step i j hr hj ih =>
    have hs := h.sb hr
    obtain ⟨j0, js⟩ := h.next hs hj
    have m : fA (atL l) j ∈ nxW (canonW W l) true (rankL l i) := by
      unfold nxW
      rw [h.at_ hs]
      unfold nxW nextsOf at hj
      unfold nextsOf
      show fA (atL l) j ∈ fA (atL l) (tAt W.L i).cls :: (if goesOn true (tAt W.L i) = true then objsOf ((tAt W.L i).F.map (canV (atL l))) else [])
      rcases List.mem_cons.1 hj with q | q
      · rw [q]; exact List.mem_cons_self
      · by_cases g : goesOn true (tAt W.L i) = true
        · rw [if_pos g] at q ⊢
          rw [objs_map]
          exact List.mem_cons_of_mem _ (List.mem_map.2 ⟨j, q, rfl⟩)
        · rw [if_neg g] at q; cases q
    have z := Rch.step ih m
    rw [fA_rank l j j0 js, Int.toNat_natCast] at z
    exact z
theorem can_all (h : CanW W l) {l' : List Bool} (hl : RchL (canonW W l).L.length (nxW (canonW W l) true) (rootsOf (canonW W l).R) l') : l' = List.replicate (canonW W l).L.length true :=
  rch_all (can_check h) (fun q hq => by
    rw [h.clen] at hq
    obtain ⟨i, hi, hs, hr⟩ := h.some hq
    rw [← hr]
    exact can_come h ((h.rch.2 i).1 hs)) hl
end
/-! ### where all is come to, the canon is the world itself -/
theorem rank_rep (n : Nat) : ∀ i, i ≤ n → rankL (List.replicate n true) i = i := by
  intro i
  induction i with
  | zero => intro _; rfl
  | succ i ih =>
    intro hi
    have hs : sB (List.replicate n true) i = true := by
      unfold sB; rw [List.getD_eq_getElem?_getD, List.getElem?_replicate, if_pos (by omega)]; rfl
    rw [rankL_succ _ i (by simp; omega), ih (by omega), if_pos hs]
theorem fA_rep (n : Nat) (x : Int) (h0 : 0 ≤ x) (h1 : x < n) : fA (atL (List.replicate n true)) x = x := by
  have hs : sB (List.replicate n true) x.toNat = true := by
    unfold sB; rw [List.getD_eq_getElem?_getD, List.getElem?_replicate, if_pos (by omega)]; rfl
  rw [fA_rank _ x h0 hs, rank_rep n _ (by omega)]; omega
theorem toldN_rep (n : Nat) (x : Int) (h : x = 0 ∨ (0 ≤ x ∧ x < n)) : toldN (fA (atL (List.replicate n true))) x = x := by
  unfold toldN
  by_cases e : x = 0
  · rw [if_pos e]; exact e.symm
  · rw [if_neg e]
    rcases h with h | h
    · exact absurd h e
    · exact fA_rep n x h.1 h.2
theorem map_self {α : Type} (f : α → α) (L : List α) (h : ∀ x ∈ L, f x = x) : L.map f = L := by
  rw [List.map_congr_left h]; exact List.map_id' L
theorem canT_self {W : PW} (h : checkB W = true) {i : Nat} (hi : i < W.L.length) : canT (atL (List.replicate W.L.length true)) (tAt W.L i) = tAt W.L i := by
  obtain ⟨hc, hs⟩ := check_thing h hi
  have hF : (tAt W.L i).F.map (canV (atL (List.replicate W.L.length true))) = (tAt W.L i).F := by
    refine map_self _ _ (fun v hv => ?_)
    unfold canV
    by_cases ho : v.obj = true
    · rw [if_pos ho]
      obtain ⟨p, hp, e⟩ := List.mem_iff_getElem.1 hv
      have ev : vAt (tAt W.L i).F p = v := by unfold vAt; rw [List.getD_eq_getElem?_getD, List.getElem?_eq_getElem hp, e]; rfl
      unfold shapeB at hs
      by_cases f3 : (tAt W.L i).fmt = 3
      · rw [if_pos f3, Bool.and_eq_true, decide_eq_true_eq] at hs; omega
      · rw [if_neg f3] at hs
        by_cases f12 : (tAt W.L i).fmt = 1 ∨ (tAt W.L i).fmt = 2
        · rw [if_pos f12] at hs
          simp only [Bool.and_eq_true] at hs
          have f := (allTo_iff _ _).1 (show allTo (fun j => fldB W.L.length (vAt (tAt W.L i).F j)) (tAt W.L i).F.length = true from hs.2.2) p hp
          rw [ev] at f
          unfold fldB at f
          rw [if_pos ho, decide_eq_true_eq] at f
          rw [fA_rep _ _ f.1 f.2]
          obtain ⟨o, n⟩ := v
          simp only at ho
          rw [ho]
        · rw [if_neg f12] at hs; cases hs
    · rw [if_neg ho]
  unfold canT
  rw [hF, fA_rep _ _ hc.1 hc.2]
theorem canon_self {W : PW} (h : checkB W = true) : canonW W (List.replicate W.L.length true) = { W with dead := [] } := by
  have hL : canK W (List.replicate W.L.length true) W.L.length = W.L := by
    unfold canK
    have hf : (List.range W.L.length).filter (fun j => sB (List.replicate W.L.length true) j) = List.range W.L.length := by
      rw [List.filter_eq_self]
      intro j hj
      have := List.mem_range.1 hj
      unfold sB; rw [List.getD_eq_getElem?_getD, List.getElem?_replicate, if_pos this]; rfl
    rw [hf]
    refine List.ext_getElem? (fun q => ?_)
    rw [List.getElem?_map]
    by_cases hq : q < W.L.length
    · rw [List.getElem?_range hq]
      show some (canT _ (tAt W.L q)) = _
      rw [canT_self h hq]
      unfold tAt
      rw [List.getD_eq_getElem?_getD, List.getElem?_eq_getElem hq]; rfl
    · rw [List.getElem?_eq_none (by simpa using hq), List.getElem?_eq_none (by omega)]; rfl
  have hg := check_regs h
  unfold regsB at hg
  simp only [Bool.and_eq_true, Bool.or_eq_true, decide_eq_true_eq] at hg
  obtain ⟨g1, g2, g3, g4, _, g6, _⟩ := hg
  have ok : ∀ x, (x = 0 ∨ thereB W x = true) → toldN (fA (atL (List.replicate W.L.length true))) x = x := fun x hx => toldN_rep _ x (hx.imp id there_in)
  have hR : toldR (fA (atL (List.replicate W.L.length true))) W.R = W.R := by
    unfold toldR
    rw [ok _ g1, ok _ g2, map_self _ _ (fun x hx => ok x (.inr (thereL_all g3 x hx))), map_self _ _ (fun x hx => ok x (.inr (thereL_all g4 x hx)))]
    rw [map_self (toldP _) W.R.wait (fun p hp => by
      unfold waitB at g6
      obtain ⟨q, hq, hqv⟩ := List.mem_iff_getElem.1 hp
      have f := (allTo_iff _ _).1 g6 q hq
      unfold wAt at f
      rw [List.getD_eq_getElem?_getD, List.getElem?_eq_getElem hq, hqv] at f
      rw [Bool.and_eq_true] at f
      unfold toldP
      rw [ok p.1 (.inr f.1), ok p.2 (.inr f.2)])]
  unfold canonW
  rw [hL, hR]
/-- canonical twice is once -/
theorem canon_twice {W : PW} {l l' : List Bool} (h : CanW W l) (hl : RchL (canonW W l).L.length (nxW (canonW W l) true) (rootsOf (canonW W l).R) l') : canonW (canonW W l) l' = canonW W l := by
  rw [can_all h hl, canon_self (can_check h)]; rfl
end Go.Proofs.Ytadhkmplhgcgkaa.World
namespace Go.Proofs.Ytadhkmplhgcgkaa.World
open Go.RowKit Go.Proofs.Ytadhkmplhgcgkaa.Plain
set_option linter.unusedVariables false
def newT (W : PW) : PT := ⟨10, 1, W.last + 1, false, [⟨true, (W.L.length : Int)⟩], ByteArray.empty⟩
/-- a thing more, that has itself alone -/
def moreW (W : PW) : PW := { L := W.L ++ [newT W], dead := (if W.dead.length = 0 then [] else W.dead ++ [false]), last := W.last + 1, R := W.R }
section
variable {W : PW}
theorem more_len : (moreW W).L.length = W.L.length + 1 := by unfold moreW; simp
theorem more_at (j : Nat) : tAt (moreW W).L j = if j < W.L.length then tAt W.L j else if j = W.L.length then newT W else dT := MS.tAt_app W.L (newT W) j
theorem dead_len (h : checkB W = true) : W.dead.length = 0 ∨ W.dead.length = W.L.length := by
  unfold checkB at h
  simp only [Bool.and_eq_true, decide_eq_true_eq] at h
  exact h.2.1
theorem more_live (h : checkB W = true) (i : Int) : liveB (moreW W) i = (liveB W i || decide (i = W.L.length)) := by
  have hd := dead_len h
  unfold liveB
  rw [more_len]
  have e : ∀ k : Nat, k < W.L.length → (moreW W).dead.getD k false = W.dead.getD k false := fun k hk => by
    unfold moreW
    by_cases z : W.dead.length = 0
    · rw [if_pos z]
      rw [List.getD_eq_getElem?_getD, List.getD_eq_getElem?_getD, List.getElem?_eq_none (by simp), List.getElem?_eq_none (by omega)]
    · rw [if_neg z]
      rw [List.getD_eq_getElem?_getD, List.getD_eq_getElem?_getD, List.getElem?_append_left (by omega)]
  have eN : (moreW W).dead.getD W.L.length false = false := by
    unfold moreW
    by_cases z : W.dead.length = 0
    · rw [if_pos z]; rfl
    · rw [if_neg z]
      rw [List.getD_eq_getElem?_getD, List.getElem?_append_right (by omega)]
      have : W.L.length - W.dead.length = 0 := by omega
      rw [this]; rfl
  by_cases h0 : 0 ≤ i ∧ i < W.L.length
  · rw [decide_eq_true h0, decide_eq_true (by omega), e _ (by omega), decide_eq_false (by omega)]; simp
  · by_cases hN : i = W.L.length
    · subst hN
      rw [Int.toNat_natCast, eN, decide_eq_true (by omega), decide_eq_true rfl]; simp
    · rw [decide_eq_false h0, decide_eq_false (by omega), decide_eq_false hN]; rfl
theorem more_live_old (h : checkB W = true) {i : Int} (hl : liveB W i = true) : liveB (moreW W) i = true := by rw [more_live h, hl]; rfl
theorem more_there (h : checkB W = true) {i : Int} (ht : thereB W i = true) : thereB (moreW W) i = true := by
  unfold thereB at *
  rw [Bool.and_eq_true] at *
  exact ⟨ht.1, more_live_old h ht.2⟩
theorem more_prev (i : Nat) (hi : i ≤ W.L.length) : prevH (moreW W).L i = prevH W.L i := prevH_app W.L (newT W) i hi
theorem cls10 (h : checkB W = true) : isClsB (tAt W.L 10) = true ∧ liveB W 10 = true := by
  have hl := check_len h
  have sp := h
  unfold checkB at sp
  simp only [Bool.and_eq_true] at sp
  have s3 := (allTo_iff _ _).1 (show allTo (spec1B W) 23 = true from sp.2.2.2.1) 3 (by omega)
  have c3 : (tAt W.L 3).cls = 10 := by
    unfold spec1B at s3
    rw [if_neg (by omega), if_pos (by omega)] at s3
    exact of_decide_eq_true s3
  obtain ⟨_, _, _, _, e, f⟩ := (one_iff W 3).1 (check_one h (by omega))
  have l3 : liveB W ((3 : Nat) : Int) = true := by
    cases hv : liveB W ((3 : Nat) : Int) with
    | true => rfl
    | false => have := f hv; omega
  have q := (e l3).1
  unfold classB at q
  rw [c3, Bool.and_eq_true] at q
  exact ⟨q.2, q.1⟩
theorem more_check (h : checkB W = true) (hl : W.last < 3000) (hn : W.L.length < 3000) : checkB (moreW W) = true := by
  have hlen := check_len h
  have hd := dead_len h
  have c10 := cls10 h
  have hc := h
  unfold checkB at hc ⊢
  simp only [Bool.and_eq_true] at hc ⊢
  refine ⟨by rw [more_len]; exact decide_eq_true (by omega), ?_, ?_, ?_, ?_⟩
  · rw [more_len]
    unfold moreW
    by_cases z : W.dead.length = 0
    · rw [if_pos z]; rfl
    · rw [if_neg z]
      show decide ((W.dead ++ [false]).length = 0 ∨ (W.dead ++ [false]).length = W.L.length + 1) = true
      rw [List.length_append]
      exact decide_eq_true (.inr (by show W.dead.length + 1 = _; omega))
  · unfold thingsB
    rw [Bool.and_eq_true, Bool.and_eq_true, allTo_iff, more_len]
    refine ⟨fun i hi => ?_, decide_eq_true ?_, decide_eq_true ?_⟩
    · rw [one_iff, more_at, more_prev i (by omega), more_len]
      by_cases hiN : i < W.L.length
      · rw [if_pos hiN]
        obtain ⟨o1, o2, o3, o4, o5, o6⟩ := (one_iff W i).1 (check_one h hiN)
        have hle : liveB (moreW W) i = liveB W i := by rw [more_live h, decide_eq_false (by omega), Bool.or_false]
        refine ⟨o1, o2, by omega, shape_mono (by omega) o4, fun hv => ?_, fun hv => o6 (by rw [← hle]; exact hv)⟩
        rw [hle] at hv
        obtain ⟨p1, p2⟩ := o5 hv
        unfold classB at p1 ⊢
        rw [Bool.and_eq_true] at p1
        refine ⟨?_, ?_⟩
        · rw [more_live_old h p1.1, more_at, if_pos (by omega), p1.2]; rfl
        · unfold liveF at p2 ⊢
          exact allTo_mono p2 (fun p hp hf => by
            rw [Bool.or_eq_true] at hf ⊢
            exact hf.imp id (more_live_old h))
      · obtain rfl : i = W.L.length := by omega
        rw [if_neg (by omega), if_pos rfl]
        have hlast : prevH W.L W.L.length ≤ W.last := by
          have hT := hc.2.2.1
          unfold thingsB at hT
          simp only [Bool.and_eq_true, decide_eq_true_eq] at hT
          exact hT.2.1
        have lN : liveB (moreW W) (W.L.length : Int) = true := by rw [more_live h, decide_eq_true rfl, Bool.or_true]
        refine ⟨?_, ?_, ?_, ?_, fun _ => ⟨?_, ?_⟩, fun hv => by omega⟩
        · show prevH W.L W.L.length < W.last + 1; omega
        · show W.last + 1 ≤ 3000; omega
        · show (0 : Int) ≤ 10 ∧ (10 : Int) < _; omega
        · unfold shapeB newT
          show (if (1 : Int) = 3 then _ else if (1 : Int) = 1 ∨ (1 : Int) = 2 then (decide (ByteArray.empty.size = 0) && (decide (1 ≤ 60) && fldsB (W.L.length + 1) [⟨true, (W.L.length : Int)⟩])) else false) = true
          rw [if_neg (by omega), if_pos (by omega)]
          have : fldsB (W.L.length + 1) [⟨true, (W.L.length : Int)⟩] = true := by
            show (true && decide (0 ≤ (W.L.length : Int) ∧ (W.L.length : Int) < ((W.L.length + 1 : Nat) : Int))) = true
            rw [decide_eq_true (by omega)]; rfl
          rw [this]; rfl
        · show classB (moreW W) 10 = true
          unfold classB
          rw [more_live_old h c10.2, more_at, if_pos (by show (10 : Int).toNat < _; omega)]
          show (true && isClsB (tAt W.L 10)) = true
          rw [c10.1]; rfl
        · show (true && (!true || liveB (moreW W) (W.L.length : Int))) = true
          rw [lN]; rfl
    · rw [prevH_succ, more_at, if_neg (by omega), if_pos rfl]; exact Int.le_refl _
    · show W.last + 1 ≤ 3000; omega
  · unfold specB
    rw [allTo_iff]
    intro i hi
    have s := (allTo_iff _ _).1 (show allTo (spec1B W) 23 = true from hc.2.2.2.1) i hi
    have e : tAt (moreW W).L i = tAt W.L i := by rw [more_at, if_pos (by omega)]
    unfold spec1B at s ⊢
    rw [e]
    exact s
  · have hg := hc.2.2.2.2
    unfold regsB at hg ⊢
    simp only [Bool.and_eq_true, Bool.or_eq_true, decide_eq_true_eq] at hg ⊢
    obtain ⟨g1, g2, g3, g4, g5, g6, g7, g8⟩ := hg
    refine ⟨g1.imp id (more_there h), g2.imp id (more_there h), ?_, ?_, g5, ?_, g7, g8⟩
    · unfold thereL at g3 ⊢; exact allTo_mono g3 (fun _ _ hf => more_there h hf)
    · unfold thereL at g4 ⊢; exact allTo_mono g4 (fun _ _ hf => more_there h hf)
    · unfold waitB at g6 ⊢
      exact allTo_mono g6 (fun _ _ hf => by
        rw [Bool.and_eq_true] at hf ⊢
        exact ⟨more_there h hf.1, more_there h hf.2⟩)
/-- nothing leads to it -/
theorem more_next (weak : Bool) (i : Nat) (hi : i < W.L.length) : nxW (moreW W) weak i = nxW W weak i := by
  unfold nxW
  rw [more_at, if_pos hi]
theorem more_rch (h : checkB W = true) {weak : Bool} {i : Nat} : Rch (nxW (moreW W) weak) (rootsOf (moreW W).R) i ↔ Rch (nxW W weak) (rootsOf W.R) i := by
  constructor
  · intro hr
    induction hr with
    | root hm => exact .root hm
    | @step i j hr hj ih =>
      rw [more_next weak i (rch_lt h ih)] at hj
      exact .step ih hj
  · intro hr
    induction hr with
    | root hm => exact .root hm
    | @step i j hr hj ih =>
      rw [← more_next weak i (rch_lt h hr)] at hj
      exact .step ih hj
theorem sB_more (l : List Bool) (i : Nat) : sB (l ++ [false]) i = sB l i := by
  unfold sB
  rw [List.getD_eq_getElem?_getD, List.getD_eq_getElem?_getD]
  by_cases hi : i < l.length
  · rw [List.getElem?_append_left hi]
  · rw [List.getElem?_eq_none (show l.length ≤ i by omega)]
    by_cases e : i = l.length
    · subst e; simp
    · rw [List.getElem?_eq_none (by simp; omega)]
theorem more_list (h : checkB W = true) {l l' : List Bool} {weak : Bool} (hl : RchL W.L.length (nxW W weak) (rootsOf W.R) l) (hl' : RchL (moreW W).L.length (nxW (moreW W) weak) (rootsOf (moreW W).R) l') : l' = l ++ [false] := by
  refine hl'.uniq ⟨by rw [more_len, List.length_append, hl.1]; rfl, fun i => ?_⟩
  rw [sB_more, more_rch h]
  exact hl.2 i
theorem rank_more (l : List Bool) : ∀ i, i ≤ l.length → rankL (l ++ [false]) i = rankL l i := by
  intro i
  induction i with
  | zero => intro _; rfl
  | succ i ih =>
    intro hi
    rw [rankL_succ _ i (by simp; omega), rankL_succ l i (by omega), ih (by omega), sB_more]
theorem fA_more (l : List Bool) (x : Int) (h0 : 0 ≤ x) (hs : sB l x.toNat = true) : fA (atL (l ++ [false])) x = fA (atL l) x := by
  rw [fA_rank _ x h0 (by rw [sB_more]; exact hs), fA_rank _ x h0 hs, rank_more l _ (Nat.le_of_lt (sB_lt hs))]
theorem canon_more {l : List Bool} (h : CanW W l) : canonW (moreW W) (l ++ [false]) = { canonW W l with last := W.last + 1 } := by
  have hL : canK (moreW W) (l ++ [false]) (moreW W).L.length = canK W l W.L.length := by
    rw [more_len, canK_succ]
    have hN : sB (l ++ [false]) W.L.length = false := by
      rw [sB_more]; unfold sB
      rw [List.getD_eq_getElem?_getD, List.getElem?_eq_none (by rw [h.len]; exact Nat.le_refl _)]; rfl
    rw [if_neg (by rw [hN]; decide), List.append_nil]
    unfold canK
    have e : (List.range W.L.length).filter (fun j => sB (l ++ [false]) j) = (List.range W.L.length).filter (fun j => sB l j) := by
      congr 1; funext j; exact sB_more l j
    rw [e]
    refine List.map_congr_left (fun j hj => ?_)
    obtain ⟨hj1, hj2⟩ := List.mem_filter.1 hj
    have hjN := List.mem_range.1 hj1
    rw [more_at, if_pos hjN]
    unfold canT
    obtain ⟨c0, cs⟩ := h.cls hj2
    rw [fA_more l _ c0 cs]
    congr 1
    refine List.map_congr_left (fun v hv => ?_)
    unfold canV
    by_cases ho : v.obj = true
    · rw [if_pos ho, if_pos ho]
      obtain ⟨p, hp, ep⟩ := List.mem_iff_getElem.1 hv
      have ev : vAt (tAt W.L j).F p = v := by unfold vAt; rw [List.getD_eq_getElem?_getD, List.getElem?_eq_getElem hp, ep]; rfl
      obtain ⟨a, b⟩ := h.fld hj2 hp (by rw [ev]; exact ho)
      rw [ev] at a b
      rw [fA_more l _ a b]
    · rw [if_neg ho, if_neg ho]
  have hg := check_regs h.chk
  unfold regsB at hg
  simp only [Bool.and_eq_true, Bool.or_eq_true, decide_eq_true_eq] at hg
  obtain ⟨g1, g2, g3, g4, _, g6, _⟩ := hg
  have ok : ∀ x, InR W.R x → (x = 0 ∨ thereB W x = true) → toldN (fA (atL (l ++ [false]))) x = toldN (fA (atL l)) x := fun x hx ht => by
    unfold toldN
    by_cases e : x = 0
    · rw [if_pos e, if_pos e]
    · rw [if_neg e, if_neg e]
      rcases ht with ht | ht
      · exact absurd ht e
      · obtain ⟨a, b⟩ := h.reg hx ht
        exact fA_more l x (by omega) b
  have hR : toldR (fA (atL (l ++ [false]))) (moreW W).R = toldR (fA (atL l)) W.R := by
    show toldR _ W.R = _
    unfold toldR
    rw [ok _ (.inl rfl) g1, ok _ (.inr (.inl rfl)) g2, List.map_congr_left (fun x hx => ok x (.inr (.inr (.inl hx))) (.inr (thereL_all g3 x hx))),
      List.map_congr_left (fun x hx => ok x (.inr (.inr (.inr (.inl hx)))) (.inr (thereL_all g4 x hx)))]
    rw [List.map_congr_left (f := toldP (fA (atL (l ++ [false])))) (g := toldP (fA (atL l))) (fun p hp => by
      unfold waitB at g6
      obtain ⟨q, hq, hqv⟩ := List.mem_iff_getElem.1 hp
      have f := (allTo_iff _ _).1 g6 q hq
      unfold wAt at f
      rw [List.getD_eq_getElem?_getD, List.getElem?_eq_getElem hq, hqv] at f
      rw [Bool.and_eq_true] at f
      unfold toldP
      rw [ok p.1 (.inr (.inr (.inr (.inr ⟨p, hp, .inl rfl⟩)))) (.inr f.1), ok p.2 (.inr (.inr (.inr (.inr ⟨p, hp, .inr rfl⟩)))) (.inr f.2)])]
  unfold canonW
  rw [hL, hR]; rfl
end
end Go.Proofs.Ytadhkmplhgcgkaa.World
namespace Go.Proofs.Ytadhkmplhgcgkaa.World
open Go.RowKit Go.Proofs.Ytadhkmplhgcgkaa.Plain
set_option linter.unusedVariables false
attribute [local go_sem ↓] Go.wp_at_zero Go.wp_at_succ
def fewT (W : PW) (i : Nat) : Bool := !decide ((70 : Int) < ((tAt W.L i).F.length : Int)) && !decide ((250 : Int) < ((tAt W.L i).B.size : Int))
def fewS (W : PW) (i : Nat) : Bool := !decide ((5000 : Int) < ((sAt W.R.snaps i).size : Int))
def fewB (W : PW) (most : Int) : Bool := !decide (most < (W.L.length : Int)) && (!decide (most < (W.dead.length : Int)) && (!decide ((30 : Int) < (W.R.ready.length : Int)) && (!decide ((30 : Int) < (W.R.wait.length : Int)) && (!decide (most < (W.R.due.length : Int)) && (!decide ((5000 : Int) < (W.R.out.size : Int)) && (!decide ((5000 : Int) < (W.R.inp.size : Int)) && (!decide ((30 : Int) < (W.R.snaps.length : Int)) && (allTo (fewT W) W.L.length && allTo (fewS W) W.R.snaps.length))))))))
section
variable {w : World} {x : WV} {W : PW}
set_option maxRecDepth 100000 in
set_option maxHeartbeats 4000000 in
theorem few (h : WorldAt w x W) (most : Int) : Calls Try.prog 17 #[.agg (cellsW W x), .int .i64 most] w fun e w' => e = .returned (.bool (fewB W most)) ∧ Ext w w' := by
  obtain ⟨vL, fs, vD, vRe, vWa, vDu, vSn⟩ := x
  obtain ⟨A1, c1, e1, l1, l1'⟩ := h.L.row.form
  replace e1 : vL = .slice A1 W.L.length c1 := e1
  subst e1
  obtain ⟨A2, c2, e2, l2, l2'⟩ := Row.form h.dead
  replace e2 : vD = .slice A2 W.dead.length c2 := e2
  subst e2
  obtain ⟨A3, c3, e3, l3, l3'⟩ := Row.form h.ready
  replace e3 : vRe = .slice A3 W.R.ready.length c3 := e3
  subst e3
  obtain ⟨A4, c4, e4, l4, l4'⟩ := Row.form h.wait
  replace e4 : vWa = .slice A4 W.R.wait.length c4 := e4
  subst e4
  obtain ⟨A5, c5, e5, l5, l5'⟩ := Row.form h.due
  replace e5 : vDu = .slice A5 W.R.due.length c5 := e5
  subst e5
  obtain ⟨A6, c6, e6, l6, l6'⟩ := Row.form h.snaps
  replace e6 : vSn = .slice A6 W.R.snaps.length c6 := e6
  subst e6
  have HC := Lib.hid (fun (j : Nat) (hj : j < W.L.length) => h.L.cells rfl j hj)
  have HF := Lib.hid (fun (j : Nat) (hj : j < W.L.length) => h.L.flds j hj)
  have HS := Lib.hid (fun (j : Nat) (hj : j < W.R.snaps.length) => Row.at_ h.snaps j hj)
  have HT := Lib.hid (fun (j : Nat) (hj : j < W.L.length) => (h.nums.things (tAt W.L j) (by unfold tAt; rw [List.getD_eq_getElem?_getD, List.getElem?_eq_getElem hj]; exact List.getElem_mem hj)).2.2.2.1)
  have Hout := h.nums.out
  have Hinp := h.nums.inp
  have HSn := Lib.hid (fun (j : Nat) (hj : j < W.R.snaps.length) => (h.nums.snaps (sAt W.R.snaps j) (by unfold sAt; rw [List.getD_eq_getElem?_getD, List.getElem?_eq_getElem hj]; exact List.getElem_mem hj)))
  clear h
  have E : Hid (fewB W most = (!decide (most < (W.L.length : Int)) && (!decide (most < (W.dead.length : Int)) && (!decide ((30 : Int) < (W.R.ready.length : Int)) && (!decide ((30 : Int) < (W.R.wait.length : Int)) && (!decide (most < (W.R.due.length : Int)) && (!decide ((5000 : Int) < (W.R.out.size : Int)) && (!decide ((5000 : Int) < (W.R.inp.size : Int)) && (!decide ((30 : Int) < (W.R.snaps.length : Int)) && (allTo (fewT W) W.L.length && allTo (fewS W) W.R.snaps.length)))))))))) := rfl
  have TF := Lib.hid (allTo_false (fewT W) W.L.length)
  have TS := Lib.hid (allTo_succ (fewT W))
  have SF := Lib.hid (allTo_false (fewS W) W.R.snaps.length)
  have SS := Lib.hid (allTo_succ (fewS W))
  have ET : Hid (∀ i, fewT W i = (!decide ((70 : Int) < ((tAt W.L i).F.length : Int)) && !decide ((250 : Int) < ((tAt W.L i).B.size : Int)))) := Lib.hid (fun i => rfl)
  have ES : Hid (∀ i, fewS W i = !decide ((5000 : Int) < ((sAt W.R.snaps i).size : Int))) := Lib.hid (fun i => rfl)
  generalize fewB W most = res at *
  unfold cellsW
  simp only
  generalize W.L.length = n1 at *
  generalize W.dead.length = n2 at *
  generalize W.R.ready.length = n3 at *
  generalize W.R.wait.length = n4 at *
  generalize W.R.due.length = n5 at *
  generalize W.R.snaps.length = n6 at *
  generalize W.R.out = so at *
  generalize W.R.inp = si at *
  obtain ⟨p1, h1⟩ : ∃ p, decide (most < (n1 : Int)) = p := ⟨_, rfl⟩
  obtain ⟨p2, h2⟩ : ∃ p, decide (most < (n2 : Int)) = p := ⟨_, rfl⟩
  obtain ⟨p3, h3⟩ : ∃ p, decide ((30 : Int) < (n3 : Int)) = p := ⟨_, rfl⟩
  obtain ⟨p4, h4⟩ : ∃ p, decide ((30 : Int) < (n4 : Int)) = p := ⟨_, rfl⟩
  obtain ⟨p5, h5⟩ : ∃ p, decide (most < (n5 : Int)) = p := ⟨_, rfl⟩
  obtain ⟨p6, h6⟩ : ∃ p, decide ((5000 : Int) < (so.size : Int)) = p := ⟨_, rfl⟩
  obtain ⟨p7, h7⟩ : ∃ p, decide ((5000 : Int) < (si.size : Int)) = p := ⟨_, rfl⟩
  obtain ⟨p8, h8⟩ : ∃ p, decide ((30 : Int) < (n6 : Int)) = p := ⟨_, rfl⟩
  rw [h1, h2, h3, h4, h5, h6, h7, h8] at E
  go_enter Try.func17, Try.ntmps17
  go_upto_region 1 with (fail)
  refine wp_name (fun w1 hw => ?_)
  have b0 := Blk.new' hw
  have x0 := (Ext.refl w).alloc' hw
  clear hw
  obtain ⟨r1, r2, r3⟩ := b0.rules
  have B0 := Lib.hid b0
  have X0 := Lib.hid x0
  clear b0 x0
  generalize hqq : w.heap.size = q at *
  have QB := Lib.hid hqq
  clear hqq
  refine wp_region_fixed ?_
  repeat (go_big_quiet_step (fail))
  cases p1 with
  | true =>
    rw [Bool.not_true, Bool.false_and] at E
    repeat (go_big_quiet_step (fail))
    refine wpQuiet_nil ?_
    rintro W3 ⟨xx, rfl⟩
    go_wp2_with fail
    go_ret
    exact ⟨ret_bool E.out.symm, X0.out.trans (is_ext _ _)⟩
  | false =>
    rw [Bool.not_false, Bool.true_and] at E
    repeat (go_big_quiet_step (fail))
    cases p2 with
    | true =>
      rw [Bool.not_true, Bool.false_and] at E
      repeat (go_big_quiet_step (fail))
      refine wpQuiet_nil ?_
      rintro W3 ⟨xx, rfl⟩
      go_wp2_with fail
      go_ret
      exact ⟨ret_bool E.out.symm, X0.out.trans (is_ext _ _)⟩
    | false =>
      rw [Bool.not_false, Bool.true_and] at E
      repeat (go_big_quiet_step (fail))
      cases p3 with
      | true =>
        rw [Bool.not_true, Bool.false_and] at E
        repeat (go_big_quiet_step (fail))
        refine wpQuiet_nil ?_
        rintro W3 ⟨xx, rfl⟩
        go_wp2_with fail
        go_ret
        exact ⟨ret_bool E.out.symm, X0.out.trans (is_ext _ _)⟩
      | false =>
        rw [Bool.not_false, Bool.true_and] at E
        repeat (go_big_quiet_step (fail))
        cases p4 with
        | true =>
          rw [Bool.not_true, Bool.false_and] at E
          repeat (go_big_quiet_step (fail))
          refine wpQuiet_nil ?_
          rintro W3 ⟨xx, rfl⟩
          go_wp2_with fail
          go_ret
          exact ⟨ret_bool E.out.symm, X0.out.trans (is_ext _ _)⟩
        | false =>
          rw [Bool.not_false, Bool.true_and] at E
          repeat (go_big_quiet_step (fail))
          cases p5 with
          | true =>
            rw [Bool.not_true, Bool.false_and] at E
            repeat (go_big_quiet_step (fail))
            refine wpQuiet_nil ?_
            rintro W3 ⟨xx, rfl⟩
            go_wp2_with fail
            go_ret
            exact ⟨ret_bool E.out.symm, X0.out.trans (is_ext _ _)⟩
          | false =>
            rw [Bool.not_false, Bool.true_and] at E
            repeat (go_big_quiet_step (fail))
            cases p6 with
            | true =>
              rw [Bool.not_true, Bool.false_and] at E
              repeat (go_big_quiet_step (fail))
              refine wpQuiet_nil ?_
              rintro W3 ⟨xx, rfl⟩
              go_wp2_with fail
              go_ret
              exact ⟨ret_bool E.out.symm, X0.out.trans (is_ext _ _)⟩
            | false =>
              rw [Bool.not_false, Bool.true_and] at E
              repeat (go_big_quiet_step (fail))
              cases p7 with
              | true =>
                rw [Bool.not_true, Bool.false_and] at E
                repeat (go_big_quiet_step (fail))
                refine wpQuiet_nil ?_
                rintro W3 ⟨xx, rfl⟩
                go_wp2_with fail
                go_ret
                exact ⟨ret_bool E.out.symm, X0.out.trans (is_ext _ _)⟩
              | false =>
                rw [Bool.not_false, Bool.true_and] at E
                repeat (go_big_quiet_step (fail))
                cases p8 with
                | true =>
                  rw [Bool.not_true, Bool.false_and] at E
                  repeat (go_big_quiet_step (fail))
                  refine wpQuiet_nil ?_
                  rintro W3 ⟨xx, rfl⟩
                  go_wp2_with fail
                  go_ret
                  exact ⟨ret_bool E.out.symm, X0.out.trans (is_ext _ _)⟩
                | false =>
                  rw [Bool.not_false, Bool.true_and] at E
                  repeat (go_big_quiet_step (fail))
                  refine wpQuiet_nil ?_
                  rintro W3 ⟨xx, hx⟩
                  have X1 : Hid (Ext w W3) := Lib.hid (X0.out.trans ⟨xx, hx⟩)
                  have B1 := Lib.hid (B0.out.ext ⟨xx, hx⟩)
                  clear hx B0 X0 r1 r2 r3 h1 h2 h3 h4 h5 h6 h7 h8
                  obtain ⟨r1, r2, r3⟩ := B1.out.rules
                  go_wp2_with fail
                  go_loopw [5] (fun iv wr => ∃ i : Nat, i ≤ n1 ∧ iv = .int .i64 i ∧ allTo (fewT W) i = true ∧ Ext W3 wr) (fun iv _ => n1 - (intOf iv).toNat)
                  case atStart => exact ⟨0, Nat.zero_le _, rfl, rfl, Ext.refl _⟩
                  case round =>
                    obtain ⟨i, hi, rfl, ha, xr⟩ := hrel
                    have HA := Lib.hid ha
                    clear ha
                    have XR := Lib.hid xr
                    clear r1 r2 r3
                    obtain ⟨r1, r2, r3⟩ := (B1.out.ext xr).rules
                    by_cases hlt : i < n1
                    · obtain ⟨b, off, rfl, hb, d0, d1, d2, d3, d4, d5⟩ := HC.out i hlt
                      rw [← QB.out] at hb
                      obtain ⟨AF, cF', ef, f1, f2⟩ := Row.form (HF.out i hlt)
                      have ef' : fs i = .slice AF (tAt W.L i).F.length cF' := ef
                      replace d4 : w.cell? ⟨b, off + i * 6 + 4, none⟩ = some (fs i) := d4
                      rw [ef'] at d4
                      have XX := Lib.hid (X1.out.trans xr)
                      replace d4 := (XX.out.below.cell (p := ⟨b, off + i * 6 + 4, none⟩) hb).trans d4
                      replace d5 := (XX.out.below.cell (p := ⟨b, off + i * 6 + 5, none⟩) hb).trans d5
                      have hbr := Nat.lt_of_lt_of_le hb XX.out.below.size
                      have ht := HT.out i hlt
                      have iN : (i : Int) < (n1 : Int) := by omega
                      clear d0 d1 d2 d3 hb xr ef ef'
                      have BAD : Hid (fewT W i = false → res = false) := Lib.hid (fun hf => by rw [E.out, TF.out i hlt hf]; rfl)
                      have YES : Hid (fewT W i = true → allTo (fewT W) (i + 1) = true) := Lib.hid (fun hf => TS.out i HA.out hf)
                      have EV := Lib.hid (ET.out i)
                      generalize (tAt W.L i).F.length = m at *
                      generalize (tAt W.L i).B = sB at *
                      obtain ⟨p1, h1⟩ : ∃ p, decide ((70 : Int) < (m : Int)) = p := ⟨_, rfl⟩
                      obtain ⟨p2, h2⟩ : ∃ p, decide ((250 : Int) < (sB.size : Int)) = p := ⟨_, rfl⟩
                      rw [h1, h2] at EV
                      go_upto_region 6 with (fail)
                      refine wp_region_fixed ?_
                      repeat (go_big_quiet_step (fail))
                      cases p1 with
                      | true =>
                        repeat (go_big_quiet_step (fail))
                        refine wpQuiet_nil ?_
                        rintro W4 ⟨x4, rfl⟩
                        go_wp2_with fail
                        go_ret
                        exact ⟨ret_bool (BAD.out (by rw [EV.out]; rfl)).symm, XX.out.trans (is_ext _ _)⟩
                      | false =>
                        repeat (go_big_quiet_step (fail))
                        cases p2 with
                        | true =>
                          repeat (go_big_quiet_step (fail))
                          refine wpQuiet_nil ?_
                          rintro W4 ⟨x4, rfl⟩
                          go_wp2_with fail
                          go_ret
                          exact ⟨ret_bool (BAD.out (by rw [EV.out]; rfl)).symm, XX.out.trans (is_ext _ _)⟩
                        | false =>
                          repeat (go_big_quiet_step (fail))
                          refine wpQuiet_nil ?_
                          rintro W4 ⟨x4, rfl⟩
                          go_wp2_with fail
                          go_roundw
                          case rel => exact ⟨i + 1, by omega, by go_num, YES.out (by rw [EV.out]; rfl), XR.out.trans (is_ext _ _)⟩
                          case measure => simp [intOf]; omega
                    · obtain rfl : i = n1 := by omega
                      have E2 : Hid (res = allTo (fewS W) n6) := Lib.hid (by rw [E.out, HA.out, Bool.true_and])
                      have X2 := Lib.hid (X1.out.trans xr)
                      have B2 := Lib.hid (B1.out.ext xr)
                      clear xr
                      go_wp2_with fail
                      go_loopw [6] (fun iv w2 => ∃ j : Nat, j ≤ n6 ∧ iv = .int .i64 j ∧ allTo (fewS W) j = true ∧ Ext wr w2) (fun iv _ => n6 - (intOf iv).toNat)
                      case atStart => exact ⟨0, Nat.zero_le _, rfl, rfl, Ext.refl _⟩
                      case round =>
                        obtain ⟨j, hj, rfl, hb2, xs⟩ := hrel
                        have HB := Lib.hid hb2
                        clear hb2
                        have XS := Lib.hid xs
                        have XT := Lib.hid (X2.out.trans xs)
                        clear r1 r2 r3
                        obtain ⟨r1, r2, r3⟩ := (B2.out.ext xs).rules
                        by_cases hlt2 : j < n6
                        · obtain ⟨b, off, rfl, hb, hc⟩ := HS.out j hlt2
                          rw [← QB.out] at hb
                          have c0 := hc 0 (by omega)
                          rw [Nat.mul_one, Nat.add_zero] at c0
                          replace c0 := (XT.out.below.cell (p := ⟨b, off + j, none⟩) hb).trans c0
                          have hbr := Nat.lt_of_lt_of_le hb XT.out.below.size
                          have ht := HSn.out j hlt2
                          have jN : (j : Int) < (n6 : Int) := by omega
                          clear hb hc xs
                          have BAD : Hid (fewS W j = false → res = false) := Lib.hid (fun hf => by rw [E2.out, SF.out j hlt2 hf])
                          have YES : Hid (fewS W j = true → allTo (fewS W) (j + 1) = true) := Lib.hid (fun hf => SS.out j HB.out hf)
                          have EV := Lib.hid (ES.out j)
                          generalize sAt W.R.snaps j = sB at *
                          obtain ⟨p1, h1⟩ : ∃ p, decide ((5000 : Int) < (sB.size : Int)) = p := ⟨_, rfl⟩
                          rw [h1] at EV
                          go_upto_region 11 with (fail)
                          refine wp_region_fixed ?_
                          repeat (go_big_quiet_step (fail))
                          refine wpQuiet_nil ?_
                          rintro W4 ⟨x4, rfl⟩
                          cases p1 with
                          | true =>
                            go_wp2_with fail
                            go_ret
                            exact ⟨ret_bool (BAD.out (by rw [EV.out]; rfl)).symm, XT.out.trans (is_ext _ _)⟩
                          | false =>
                            go_wp2_with fail
                            go_roundw
                            case rel => exact ⟨j + 1, by omega, by go_num, YES.out (by rw [EV.out]; rfl), XS.out.trans (is_ext _ _)⟩
                            case measure => simp [intOf]; omega
                        · obtain rfl : j = n6 := by omega
                          go_wp2_with fail
                          go_ret
                          exact ⟨ret_bool (by rw [E2.out, HB.out]), XT.out⟩
end
end Go.Proofs.Ytadhkmplhgcgkaa.World
namespace Go.Proofs.Ytadhkmplhgcgkaa.World
open Go.RowKit Go.Proofs.Ytadhkmplhgcgkaa.Plain
set_option linter.unusedVariables false
theorem eqInts_refl (l : List Int) : eqInts l l = true := by
  unfold eqInts
  rw [decide_eq_true rfl, Bool.true_and, allTo_iff]
  intro i _; exact beq_self_eq_true _
theorem eqP_refl (u : Int × Int) : eqP u u = true := by unfold eqP; simp
theorem eqPV_refl (u : PV) : eqPV u u = true := by unfold eqPV; simp
theorem eqFs_refl (l : List PV) : eqFs l l = true := by
  unfold eqFs
  rw [decide_eq_true rfl, Bool.true_and, allTo_iff]
  intro i _; exact eqPV_refl _
theorem eqT_refl (t : PT) : eqT t t = true := by
  unfold eqT
  rw [eqFs_refl, bytes_refl]; simp
theorem eqL_refl (L : List PT) : eqL L L = true := by
  unfold eqL
  rw [decide_eq_true rfl, Bool.true_and, allTo_iff]
  intro i _; exact eqT_refl _
theorem eqStrs_refl (l : List ByteArray) : eqStrs l l = true := by
  unfold eqStrs
  rw [decide_eq_true rfl, Bool.true_and, allTo_iff]
  intro i _; exact bytes_refl _
theorem eqWaits_refl (l : List (Int × Int)) : eqWaits l l = true := by
  unfold eqWaits
  rw [decide_eq_true rfl, Bool.true_and, allTo_iff]
  intro i _; exact eqP_refl _
theorem eqR_refl (R : PR) : eqR R R = true := by
  have hw : wtsB R R = true := by unfold wtsB; rw [allTo_iff]; intro i _; exact eqP_refl _
  have hs : snsB R R = true := by unfold snsB; rw [allTo_iff]; intro i _; exact beq_self_eq_true _
  unfold eqR
  rw [eqInts_refl, eqInts_refl, hw, hs]; simp
theorem eqE_refl (A : PW) : eqE A A = true := by
  have h : allTo (eqThB A A) A.L.length = true := by
    rw [allTo_iff]; intro i _; unfold eqThB; rw [eqT_refl]; simp
  unfold eqE
  rw [h, eqR_refl]; simp
theorem eqW_refl (A : PW) : eqW A A = true := by
  unfold eqW
  rw [eqL_refl, eqInts_refl, eqInts_refl, eqWaits_refl, eqStrs_refl, bytes_refl, bytes_refl]; simp
/-- a thing is put behind, in memory -/
theorem NewW.push {w w6 : World} {base : Nat} {W : PW} {x : WV} {t : PT} {v' vF : Value} (h : NewW w base W x) (KW : Keep (fun j => x.L.ownBlock = some j) w w6)
    (o6 : w6.ownsRow base 57 6 v' (W.L.length + 1) (flat W.L.length 6 (cL W.L x.fs) ++ [.int .i64 t.cls, .int .i64 t.fmt, .int .i64 t.hash, .bool t.fin, vF, .string t.B]))
    (OW : Own w base 37 vF t.F.length 2 (cF t.F)) (hap : ∀ q, q < W.L.length → Apart vF (x.fs q)) (hn : in64 t.cls ∧ in64 t.fmt ∧ in64 t.hash ∧ t.B.size ≤ maxLen ∧ ∀ v ∈ t.F, in64 v.n) :
    NewW w6 base { W with L := W.L ++ [t] } { x with L := v', fs := fun i => if i = W.L.length then vF else x.fs i } := by
  have KT6 : KT [57] w w6 := Keep.mono KW (fun j hj => by obtain ⟨_, cs, hb⟩ := h.L.block hj; exact ⟨_, _, by simp, hb⟩)
  have hl : (W.L ++ [t]).length = W.L.length + 1 := by simp
  have L6 : Own w6 base 57 v' (W.L ++ [t]).length 6 (cL (W.L ++ [t]) (fun i => if i = W.L.length then vF else x.fs i)) := by
    show w6.ownsRow _ _ _ _ _ _
    have e1 : (List.range 6).map (cL (W.L ++ [t]) (fun i => if i = W.L.length then vF else x.fs i) W.L.length) = [.int .i64 t.cls, .int .i64 t.fmt, .int .i64 t.hash, .bool t.fin, vF, .string t.B] := by
      rw [show List.range 6 = [0, 1, 2, 3, 4, 5] from rfl]
      simp only [List.map_cons, List.map_nil, cL, cT, if_true, tAt_push W.L t W.L.length (by omega)]
    have e2 : flat W.L.length 6 (cL (W.L ++ [t]) (fun i => if i = W.L.length then vF else x.fs i)) = flat W.L.length 6 (cL W.L x.fs) := flat_congr (fun i j hi => by simp only [cL]; rw [if_neg (by omega), tAt_push W.L t i (by omega), if_neg (by omega)])
    rw [hl, flat_succ, e1, e2]
    exact o6
  refine ⟨L6, fun q hq => ?_, fun q p hq hp => ?_, h.dead.kt KT6 (by decide), h.R.kt KT6 (by decide) (by decide) (by decide), ?_⟩
  · have hq : q < W.L.length + 1 := by have := hq; simpa using this
    show Own _ _ _ (if q = W.L.length then _ else _) (tAt (W.L ++ [t]) q).F.length 2 (cF (tAt (W.L ++ [t]) q).F)
    rw [tAt_push W.L t q hq]
    by_cases e : q = W.L.length
    · rw [if_pos e, if_pos e]; exact OW.kt KT6 (by decide)
    · rw [if_neg e, if_neg e]; exact (h.fs q (by omega)).kt KT6 (by decide)
  · have hq : q < W.L.length + 1 := by have := hq; simpa using this
    show Apart (if q = W.L.length then _ else _) (if p = W.L.length then _ else _)
    rw [if_neg (by omega : p ≠ W.L.length)]
    by_cases e : q = W.L.length
    · rw [if_pos e]; exact hap p (by omega)
    · rw [if_neg e]; exact h.ap q p (by omega) hp
  · have n := h.nums
    exact ⟨n.last, n.proc, n.frame, n.how, n.exit, n.out, n.inp, n.ready, n.due, n.wait, n.snaps, fun u hu => by
      rcases List.mem_append.1 hu with hu | hu
      · exact n.things u hu
      · rw [List.mem_singleton.1 hu]; exact hn⟩
/-- one more of the dead -/
theorem NewW.pushD {w w6 : World} {base : Nat} {W : PW} {x : WV} {v' : Value} (h : NewW w base W x) (KW : Keep (fun j => x.dead.ownBlock = some j) w w6)
    (o6 : w6.ownsRow base 4 1 v' (W.dead.length + 1) (flat W.dead.length 1 (cB W.dead) ++ [.bool false])) :
    NewW w6 base { W with dead := W.dead ++ [false] } { x with dead := v' } := by
  have KT6 : KT [4] w w6 := Keep.mono KW (fun j hj => by obtain ⟨_, cs, hb⟩ := h.dead.block hj; exact ⟨_, _, by simp, hb⟩)
  have n := h.nums
  refine ⟨h.L.kt KT6 (by decide), fun q hq => (h.fs q hq).kt KT6 (by decide), h.ap, ?_, h.R.kt KT6 (by decide) (by decide) (by decide), ⟨n.last, n.proc, n.frame, n.how, n.exit, n.out, n.inp, n.ready, n.due, n.wait, n.snaps, n.things⟩⟩
  show w6.ownsRow _ _ _ _ _ _
  have hl : (W.dead ++ [false]).length = W.dead.length + 1 := by simp
  have e1 : (List.range 1).map (cB (W.dead ++ [false]) W.dead.length) = [.bool false] := by
    rw [show List.range 1 = [0] from rfl]
    simp [cB]
  have e2 : flat W.dead.length 1 (cB (W.dead ++ [false])) = flat W.dead.length 1 (cB W.dead) := flat_congr (fun i j hi => by
    unfold cB
    rw [List.getD_eq_getElem?_getD, List.getElem?_append_left hi, List.getD_eq_getElem?_getD])
  show w6.ownsRow _ _ _ _ (W.dead ++ [false]).length (flat (W.dead ++ [false]).length 1 _)
  rw [hl, flat_succ, e1, e2]
  exact o6
/-- another last number -/
theorem NewW.last {w : World} {base : Nat} {W : PW} {x : WV} (h : NewW w base W x) (n : Int) (hn : in64 n) : NewW w base { W with last := n } x :=
  have m := h.nums
  ⟨h.L, h.fs, h.ap, h.dead, h.R, ⟨hn, m.proc, m.frame, m.how, m.exit, m.out, m.inp, m.ready, m.due, m.wait, m.snaps, m.things⟩⟩
/-- what the first loop finds -/
structure Found (W : PW) (la ls : List Bool) : Prop where
  sa : ∀ i, i < W.L.length → sB ls i = true → sB la i = true
  lv : ∀ i, i < W.L.length → sB la i = true → liveB W (i : Int) = true
  up : ∀ i, i < W.L.length → rankL la (i + 1) = rankL la i + (if sB la i = true then 1 else 0)
  ln : (canonW W la).L.length = rankL la W.L.length
theorem found {W : PW} {la ls : List Bool} (hc : checkB W = true) (ha : RchL W.L.length (nxW W true) (rootsOf W.R) la) (hs : RchL W.L.length (nxW W false) (rootsOf W.R) ls) : Found W la ls := by
  refine ⟨fun i hi h => (ha.2 i).2 (rch_weak ((hs.2 i).1 h)), fun i hi h => rch_live hc ((ha.2 i).1 h), fun i hi => rankL_succ la i (by rw [ha.1]; exact hi), CanW.clen ⟨hc, ha⟩⟩
end Go.Proofs.Ytadhkmplhgcgkaa.World
namespace Go.Proofs.Ytadhkmplhgcgkaa.World
open Go.RowKit Go.Proofs.Ytadhkmplhgcgkaa.Plain
set_option linter.unusedVariables false
attribute [local go_sem ↓] Go.wp_at_zero Go.wp_at_succ
theorem cell_sB' {w : World} {g : Nat} {t : TypeId} {s : List Bool} (h : Blk w g t (s.map Value.bool).toArray) (i : Nat) (hi : i < s.length) : w.cell? ⟨g, i, none⟩ = some (.bool (sB s i)) := by
  rw [h.cell, List.getElem?_toArray, List.getElem?_map, List.getElem?_eq_getElem hi]
  unfold sB
  rw [List.getD_eq_getElem?_getD, List.getElem?_eq_getElem hi]; rfl
theorem sB_rep (n i : Nat) (hi : i < n) : sB (List.replicate n true) i = true := by
  unfold sB
  rw [List.getD_eq_getElem?_getD, List.getElem?_replicate, if_pos hi]; rfl
theorem own_val1 {w : World} {g base : Nat} {u : PV} (h : Blk w g 37 #[.bool u.obj, .int .i64 u.n]) (hb : base ≤ g) : Own w base 37 (.slice (some ⟨g, 0, none⟩) 1 1) 1 2 (cF [u]) := by
  refine ⟨flat_len _ _ _, .inr ⟨g, 1, _, rfl, hb, h, Nat.le_refl _, by unfold maxLen; omega, rfl, ?_⟩⟩
  rfl
def midW (W : PW) : PW := { moreW W with last := W.last }
theorem mid0 {W : PW} (hd : W.dead.length = 0) : { W with L := W.L ++ [newT W] } = midW W := by
  unfold midW moreW
  rw [if_pos hd]
  have : W.dead = [] := List.eq_nil_of_length_eq_zero hd
  rw [this]
theorem mid1 {W : PW} (hd : W.dead.length ≠ 0) : { ({ W with L := W.L ++ [newT W] } : PW) with dead := W.dead ++ [false] } = midW W := by
  unfold midW moreW
  rw [if_neg hd]
section
variable {w : World} {x : WV} {W : PW}
set_option maxRecDepth 100000 in
set_option maxHeartbeats 16000000 in
theorem reachCanon (h : WorldAt w x W) : Calls Try.prog 6 #[.agg (cellsW W x)] w fun e w' => e = .returned (.bool true) ∧ Ext w w' := by
  have CF := Lib.hid (fun W2 (z : Ext w W2) => few (h.ext z) 120)
  have CK := Lib.hid (fun W2 (z : Ext w W2) => check7 (h.ext z))
  have CCn := Lib.hid (fun W2 (z : Ext w W2) (hc : checkB W = true) => canonP (h.ext z) hc)
  have CSt := Lib.hid (fun W2 (z : Ext w W2) => strong_ (h.ext z))
  have CAl := Lib.hid (fun W2 (z : Ext w W2) => all_ (h.ext z))
  have CLv := Lib.hid (fun W2 (z : Ext w W2) (i : Int) => rlive (h.ext z) i)
  have CWo := Lib.hid (fun W2 (z : Ext w W2) (hc : checkB W = true) => lworld (h.ext z) hc)
  have HW := Lib.hid h
  obtain ⟨vL, fs, vD, vRe, vWa, vDu, vSn⟩ := x
  obtain ⟨aL, aL', eL, lL, _⟩ := h.L.row.form
  replace eL : vL = .slice aL W.L.length aL' := eL
  subst eL
  obtain ⟨aD, aD', eD, lD, _⟩ := Row.form h.dead
  replace eD : vD = .slice aD W.dead.length aD' := eD
  subst eD
  obtain ⟨aRe, aRe', eRe, lRe, _⟩ := Row.form h.ready
  replace eRe : vRe = .slice aRe W.R.ready.length aRe' := eRe
  subst eRe
  obtain ⟨aWa, aWa', eWa, lWa, _⟩ := Row.form h.wait
  replace eWa : vWa = .slice aWa W.R.wait.length aWa' := eWa
  subst eWa
  obtain ⟨aDu, aDu', eDu, lDu, _⟩ := Row.form h.due
  replace eDu : vDu = .slice aDu W.R.due.length aDu' := eDu
  subst eDu
  obtain ⟨aSn, aSn', eSn, lSn, _⟩ := Row.form h.snaps
  replace eSn : vSn = .slice aSn W.R.snaps.length aSn' := eSn
  subst eSn
  clear h
  have CW : Hid (∀ z, cellsW W z = cellsW W z) := Lib.hid (fun _ => rfl)
  simp only [cellsW] at CF CK CCn CSt CAl CLv CWo ⊢
  obtain ⟨p1, h1⟩ : ∃ p, (!fewB W 120) = p := ⟨_, rfl⟩
  obtain ⟨p2, h2⟩ : ∃ p, (!checkB W) = p := ⟨_, rfl⟩
  obtain ⟨p3, h3⟩ : ∃ p, decide ((3000 : Int) ≤ W.last) = p := ⟨_, rfl⟩
  obtain ⟨p4, h4⟩ : ∃ p, decide ((3000 : Int) ≤ (W.L.length : Int)) = p := ⟨_, rfl⟩
  have G2 := Lib.hid h2
  have G3 := Lib.hid h3
  have G4 := Lib.hid h4
  go_enter Try.func6, Try.ntmps6
  go_upto_region 1 with (fail)
  refine wp_name (fun w1 hw => ?_)
  have b0 := Blk.new' hw
  have x0 := (Ext.refl w).alloc' hw
  clear hw
  obtain ⟨r1, r2, r3⟩ := b0.rules
  have B0 := Lib.hid b0
  have X0 := Lib.hid x0
  clear b0 x0
  generalize hqq : w.heap.size = q at *
  have QB := Lib.hid hqq
  clear hqq
  refine wp_region_fixed ?_
  repeat (go_big_quiet_step ((first | (go_at_call 17; with_reducible exact calls_ext (CF.out _ (X0.out.ext _))) | (go_at_call 15; with_reducible exact calls_ext (CK.out _ (X0.out.ext _))))))
  cases p1 with
  | true =>
    repeat (go_big_quiet_step ((first | (go_at_call 17; with_reducible exact calls_ext (CF.out _ (X0.out.ext _))) | (go_at_call 15; with_reducible exact calls_ext (CK.out _ (X0.out.ext _))))))
    refine wpQuiet_nil ?_
    rintro W3 ⟨xx, hx⟩
    have X3 := Lib.hid (X0.out.trans ⟨xx, hx⟩)
    clear hx r1 r2 r3
    go_wp2_with ((go_at_call 16; refine (awake8 _).mono ?_; rintro e w9 ⟨rfl, x9⟩; have X9 := Lib.hid (X3.out.trans x9); clear x9))
    go_ret
    exact ⟨ret_bool rfl, X9.out⟩
  | false =>
    repeat (go_big_quiet_step ((first | (go_at_call 17; with_reducible exact calls_ext (CF.out _ (X0.out.ext _))) | (go_at_call 15; with_reducible exact calls_ext (CK.out _ (X0.out.ext _))))))
    cases p2 with
    | true =>
      repeat (go_big_quiet_step ((first | (go_at_call 17; with_reducible exact calls_ext (CF.out _ (X0.out.ext _))) | (go_at_call 15; with_reducible exact calls_ext (CK.out _ (X0.out.ext _))))))
      refine wpQuiet_nil ?_
      rintro W3 ⟨xx, hx⟩
      have X3 := Lib.hid (X0.out.trans ⟨xx, hx⟩)
      clear hx r1 r2 r3
      go_wp2_with ((go_at_call 16; refine (awake8 _).mono ?_; rintro e w9 ⟨rfl, x9⟩; have X9 := Lib.hid (X3.out.trans x9); clear x9))
      go_ret
      exact ⟨ret_bool rfl, X9.out⟩
    | false =>
      repeat (go_big_quiet_step ((first | (go_at_call 17; with_reducible exact calls_ext (CF.out _ (X0.out.ext _))) | (go_at_call 15; with_reducible exact calls_ext (CK.out _ (X0.out.ext _))))))
      cases p3 with
      | true =>
        repeat (go_big_quiet_step ((first | (go_at_call 17; with_reducible exact calls_ext (CF.out _ (X0.out.ext _))) | (go_at_call 15; with_reducible exact calls_ext (CK.out _ (X0.out.ext _))))))
        refine wpQuiet_nil ?_
        rintro W3 ⟨xx, hx⟩
        have X3 := Lib.hid (X0.out.trans ⟨xx, hx⟩)
        clear hx r1 r2 r3
        go_wp2_with ((go_at_call 16; refine (awake8 _).mono ?_; rintro e w9 ⟨rfl, x9⟩; have X9 := Lib.hid (X3.out.trans x9); clear x9))
        go_ret
        exact ⟨ret_bool rfl, X9.out⟩
      | false =>
        repeat (go_big_quiet_step ((first | (go_at_call 17; with_reducible exact calls_ext (CF.out _ (X0.out.ext _))) | (go_at_call 15; with_reducible exact calls_ext (CK.out _ (X0.out.ext _))))))
        cases p4 with
        | true =>
          repeat (go_big_quiet_step ((first | (go_at_call 17; with_reducible exact calls_ext (CF.out _ (X0.out.ext _))) | (go_at_call 15; with_reducible exact calls_ext (CK.out _ (X0.out.ext _))))))
          refine wpQuiet_nil ?_
          rintro W3 ⟨xx, hx⟩
          have X3 := Lib.hid (X0.out.trans ⟨xx, hx⟩)
          clear hx r1 r2 r3
          go_wp2_with ((go_at_call 16; refine (awake8 _).mono ?_; rintro e w9 ⟨rfl, x9⟩; have X9 := Lib.hid (X3.out.trans x9); clear x9))
          go_ret
          exact ⟨ret_bool rfl, X9.out⟩
        | false =>
          repeat (go_big_quiet_step ((first | (go_at_call 17; with_reducible exact calls_ext (CF.out _ (X0.out.ext _))) | (go_at_call 15; with_reducible exact calls_ext (CK.out _ (X0.out.ext _))))))
          refine wpQuiet_nil ?_
          rintro w2 ⟨xx, hx⟩
          have hc : checkB W = true := by have := G2.out; simpa using this
          have hl : W.last < 3000 := by have := of_decide_eq_false G3.out; omega
          have hN : W.L.length < 3000 := by have := of_decide_eq_false G4.out; omega
          have X2 := Lib.hid (X0.out.trans ⟨xx, hx⟩)
          have B2 := Lib.hid (B0.out.ext ⟨xx, hx⟩)
          clear hx B0 X0 r1 r2 r3 h1 h2 h3 h4 G2 G3 G4 CF CK
          have HC := Lib.hid hc
          have HL := Lib.hid hl
          have HN := Lib.hid hN
          clear hc hl hN
          obtain ⟨r1, r2, r3⟩ := B2.out.rules
          go_upto_region 4 with (fail)
          refine (CCn.out _ X2.out HC.out).mono ?_
          rintro e w3 ⟨cs, rfl, hcs, x3⟩
          obtain ⟨la, xc, rla, rfl, nc⟩ := hcs
          obtain ⟨C, hC⟩ : ∃ C, canonW W la = C := ⟨_, rfl⟩
          rw [hC] at nc ⊢
          obtain ⟨z0L, zfs, z0D, z0Re, z0Wa, z0Du, z0Sn⟩ := xc
          obtain ⟨zL, zL', fL⟩ := Own.form nc.L
          obtain ⟨zD, zD', fD⟩ := Own.form nc.dead
          obtain ⟨zRe, zRe', fRe⟩ := Own.form nc.R.re
          obtain ⟨zWa, zWa', fWa⟩ := Own.form nc.R.wa
          obtain ⟨zDu, zDu', fDu⟩ := Own.form nc.R.du
          obtain ⟨zSn, zSn', fSn⟩ := Own.form nc.R.sn
          simp only at fL fD fRe fWa fDu fSn
          subst fL fD fRe fWa fDu fSn
          simp only [cellsW]
          have HCn := Lib.hid hC
          have RLA := Lib.hid rla
          have NC := Lib.hid (nc.base (show w.heap.size ≤ w2.heap.size from X2.out.below.size))
          have X3 := Lib.hid (X2.out.trans x3)
          have B3 := Lib.hid (B2.out.ext x3)
          clear r1 r2 r3
          obtain ⟨r1, r2, r3⟩ := (B2.out.ext x3).rules
          clear nc rla x3 hC
          go_upto_region 4 with (fail)
          refine wp_name (fun w4 hw => ?_)
          have bc : Blk w4 w3.heap.size 31 #[.slice zL C.L.length zL', .slice zD C.dead.length zD', .int .i64 C.last, .int .i64 C.R.proc, .int .i64 C.R.frame, .slice zRe C.R.ready.length zRe', .slice zWa C.R.wait.length zWa', .slice zDu C.R.due.length zDu', .string C.R.out, .string C.R.inp, .int .i64 C.R.how, .int .i64 C.R.exit, .slice zSn C.R.snaps.length zSn'] := Blk.new' hw
          have b4 : Blk w4 q 31 _ := B3.out.alloc' hw
          have x4 : Ext w w4 := X3.out.alloc' hw
          have NC4 := Lib.hid (NC.out.ext ((Ext.refl w3).alloc' hw))
          have B4 := Lib.hid b4
          have BC := Lib.hid bc
          have X4 := Lib.hid x4
          generalize hcq : w3.heap.size = qc at *
          have hqc : w.heap.size ≤ qc := by rw [← hcq]; exact X3.out.below.size
          have hqn : qc ≠ q := by have := B3.out.lt; omega
          clear hw r1 r2 r3 B2 B3 X2 X3 NC hcq bc b4 x4
          obtain ⟨r1, r2, r3⟩ := B4.out.rules
          
          have q0 : w4.cell? ⟨q, 0, none⟩ = some (.slice aL W.L.length aL') := r1 0
          have q1 : w4.cell? ⟨q, 1, none⟩ = some (.slice aD W.dead.length aD') := r1 1
          have q2 : w4.cell? ⟨q, 2, none⟩ = some (.int .i64 W.last) := r1 2
          have q3 : w4.cell? ⟨q, 3, none⟩ = some (.int .i64 W.R.proc) := r1 3
          have q4 : w4.cell? ⟨q, 4, none⟩ = some (.int .i64 W.R.frame) := r1 4
          have q5 : w4.cell? ⟨q, 5, none⟩ = some (.slice aRe W.R.ready.length aRe') := r1 5
          have q6 : w4.cell? ⟨q, 6, none⟩ = some (.slice aWa W.R.wait.length aWa') := r1 6
          have q7 : w4.cell? ⟨q, 7, none⟩ = some (.slice aDu W.R.due.length aDu') := r1 7
          have q8 : w4.cell? ⟨q, 8, none⟩ = some (.string W.R.out) := r1 8
          have q9 : w4.cell? ⟨q, 9, none⟩ = some (.string W.R.inp) := r1 9
          have q10 : w4.cell? ⟨q, 10, none⟩ = some (.int .i64 W.R.how) := r1 10
          have q11 : w4.cell? ⟨q, 11, none⟩ = some (.int .i64 W.R.exit) := r1 11
          have q12 : w4.cell? ⟨q, 12, none⟩ = some (.slice aSn W.R.snaps.length aSn') := r1 12
          clear r1
          have CS4 := Lib.hid (fun W2 (z : Ext w4 W2) => CSt.out W2 (X4.out.trans z))
          have CA4 := Lib.hid (fun W2 (z : Ext w4 W2) => CAl.out W2 (X4.out.trans z))
          clear CSt CAl
          go_cut [4, 5] from 34 to 37 (fun v4 v5 wx => ∃ ls lb gs ga, v4 = .slice (some ⟨gs, 0, none⟩) W.L.length W.L.length ∧ v5 = .slice (some ⟨ga, 0, none⟩) W.L.length W.L.length ∧ RchL W.L.length (nxW W false) (rootsOf W.R) ls ∧ RchL W.L.length (nxW W true) (rootsOf W.R) lb ∧ Blk wx gs 4 (ls.map Value.bool).toArray ∧ Blk wx ga 4 (lb.map Value.bool).toArray ∧ Ext w4 wx)
          case first =>
            go_region_held3 (fun w' => w'.cell? ⟨q, 0, none⟩ = some (.slice aL W.L.length aL') ∧ w'.cell? ⟨q, 1, none⟩ = some (.slice aD W.dead.length aD') ∧ w'.cell? ⟨q, 2, none⟩ = some (.int .i64 W.last) ∧ w'.cell? ⟨q, 3, none⟩ = some (.int .i64 W.R.proc) ∧ w'.cell? ⟨q, 4, none⟩ = some (.int .i64 W.R.frame) ∧ w'.cell? ⟨q, 5, none⟩ = some (.slice aRe W.R.ready.length aRe') ∧ w'.cell? ⟨q, 6, none⟩ = some (.slice aWa W.R.wait.length aWa') ∧ w'.cell? ⟨q, 7, none⟩ = some (.slice aDu W.R.due.length aDu') ∧ w'.cell? ⟨q, 8, none⟩ = some (.string W.R.out) ∧ w'.cell? ⟨q, 9, none⟩ = some (.string W.R.inp) ∧ w'.cell? ⟨q, 10, none⟩ = some (.int .i64 W.R.how) ∧ w'.cell? ⟨q, 11, none⟩ = some (.int .i64 W.R.exit) ∧ w'.cell? ⟨q, 12, none⟩ = some (.slice aSn W.R.snaps.length aSn')) (first | go_keep | with_reducible exact ⟨((is_ext w4 _).below.cell (p := ⟨q, 0, none⟩) r3).trans q0, ((is_ext w4 _).below.cell (p := ⟨q, 1, none⟩) r3).trans q1, ((is_ext w4 _).below.cell (p := ⟨q, 2, none⟩) r3).trans q2, ((is_ext w4 _).below.cell (p := ⟨q, 3, none⟩) r3).trans q3, ((is_ext w4 _).below.cell (p := ⟨q, 4, none⟩) r3).trans q4, ((is_ext w4 _).below.cell (p := ⟨q, 5, none⟩) r3).trans q5, ((is_ext w4 _).below.cell (p := ⟨q, 6, none⟩) r3).trans q6, ((is_ext w4 _).below.cell (p := ⟨q, 7, none⟩) r3).trans q7, ((is_ext w4 _).below.cell (p := ⟨q, 8, none⟩) r3).trans q8, ((is_ext w4 _).below.cell (p := ⟨q, 9, none⟩) r3).trans q9, ((is_ext w4 _).below.cell (p := ⟨q, 10, none⟩) r3).trans q10, ((is_ext w4 _).below.cell (p := ⟨q, 11, none⟩) r3).trans q11, ((is_ext w4 _).below.cell (p := ⟨q, 12, none⟩) r3).trans q12⟩) ((first | (go_at_call 12; refine (CS4.out _ (is_ext w4 _)).mono ?_; rintro e w6 ⟨v, rfl, hv, x6⟩; obtain ⟨ls, gs, rfl, hls, bs, _⟩ := hv.yes HC.out; have i6 : IsExt w4 w6 := ⟨(is_ext w4 _).trans x6⟩; have X6H := Lib.hid x6; have BS := Lib.hid bs; have HS := Lib.hid hls; clear x6 bs hls hv) | (go_at_call 13; refine (CA4.out _ (is_ext w4 _)).mono ?_; rintro e w7 ⟨v, rfl, hv, x7⟩; obtain ⟨lb, ga, rfl, hla, ba, _⟩ := hv.yes HC.out; have i7 : IsExt w4 w7 := ⟨(is_ext w4 _).trans x7⟩; have X7H := Lib.hid x7; have BA := Lib.hid ba; have HA := Lib.hid hla; clear x7 ba hla hv)))
            all_goals
              go_wp2_with fail
              go_meet
              first
                | exact ⟨ls, lb, gs, ga, rfl, rfl, HS.out, HA.out, (BS.out.ext ((is_ext w6 _).trans X7H.out)).ext (is_ext w7 _), BA.out.ext (is_ext w7 _), is_ext w4 _⟩
                | exact ⟨ls, lb, gs, ga, rfl, rfl, HS.out, HA.out, BS.out.ext (is_ext w6 _), (BA.out.ext ((is_ext w7 _).trans X6H.out)).ext (is_ext w6 _), is_ext w4 _⟩
          case rest =>
            obtain ⟨ls, lb, gs, ga, rfl, rfl, hls, hlb, bs, ba, xc⟩ := hcut
            obtain rfl : lb = la := hlb.uniq RLA.out
            have FD := Lib.hid (found HC.out RLA.out hls)
            have LS := Lib.hid hls.1
            have LA := Lib.hid hlb.1
            have BS := Lib.hid bs
            have BA := Lib.hid ba
            have XC := Lib.hid xc
            have B5 := Lib.hid (B4.out.ext xc)
            have BC5 := Lib.hid (BC.out.ext xc)
            have WC5 := Lib.hid (((NC4.out.ext xc)).at_)
            have X5 := Lib.hid (X4.out.trans xc)
            clear hls hlb bs ba xc CS4 CA4 q0 q1 q2 q3 q4 q5 q6 q7 q8 q9 q10 q11 q12 r2 r3 B4 BC
            obtain ⟨r1, r2, r3⟩ := B5.out.rules
            go_wp2_with fail
            go_loopw [6, 7] (fun nv iv wr => ∃ i : Nat, i ≤ W.L.length ∧ iv = .int .i64 i ∧ nv = .int .i64 ((rankL lb i : Nat) : Int) ∧ Ext wc wr) (fun _ iv _ => W.L.length - (intOf iv).toNat)
            case atStart => exact ⟨0, Nat.zero_le _, rfl, rfl, Ext.refl _⟩
            case round =>
              obtain ⟨i, hi, rfl, rfl, xr⟩ := hrel
              have XR := Lib.hid xr
              clear r1 r2 r3
              obtain ⟨r1, r2, r3⟩ := (B5.out.ext xr).rules
              by_cases hlt : i < W.L.length
              · have c1 := cell_sB' (BS.out.ext xr) i (by rw [LS.out]; exact hlt)
                have c2 := cell_sB' (BA.out.ext xr) i (by rw [LA.out]; exact hlt)
                have g1 := (BS.out.ext xr).lt
                have g2 := (BA.out.ext xr).lt
                have SA := Lib.hid (FD.out.sa i hlt)
                have SL := Lib.hid (FD.out.lv i hlt)
                have UP := Lib.hid (FD.out.up i hlt)
                have CLi := Lib.hid (fun W2 (z : Ext w W2) => CLv.out W2 z (i : Int))
                have iN : (i : Int) < (W.L.length : Int) := by omega
                have hr : rankL lb i ≤ i := rankL_le lb i
                have hi3 : i < 3000 := by have := HN.out; omega
                clear xr
                generalize sB ls i = ps at *
                generalize sB lb i = pa at *
                generalize liveB W (i : Int) = lv at *
                generalize rankL lb i = r at *
                cases pa with
                | false =>
                  obtain rfl : ps = false := by cases ps with | false => rfl | true => exact absurd (SA.out rfl) (by decide)
                  go_wp2_with fail
                  go_roundw
                  case rel => exact ⟨i + 1, by omega, by go_num, by rw [UP.out]; rfl, XR.out.trans (is_ext _ _)⟩
                  case measure => simp [intOf] <;> omega
                | true =>
                  obtain rfl : lv = true := SL.out rfl
                  cases ps with
                  | false =>
                    go_wp2_with ((go_at_call 28; refine (CLi.out _ (X5.out.trans (XR.out.trans (is_ext _ _)))).mono ?_; rintro e w6 ⟨rfl, x6⟩; obtain ⟨y6, rfl⟩ := x6; try rw [ext_ext]))
                    go_roundw
                    case rel => exact ⟨i + 1, by omega, by go_num, by rw [UP.out]; go_num, XR.out.trans (is_ext _ _)⟩
                    case measure => simp [intOf] <;> omega
                  | true =>
                    go_wp2_with ((go_at_call 28; refine (CLi.out _ (X5.out.trans (XR.out.trans (is_ext _ _)))).mono ?_; rintro e w6 ⟨rfl, x6⟩; obtain ⟨y6, rfl⟩ := x6; try rw [ext_ext]))
                    go_roundw
                    case rel => exact ⟨i + 1, by omega, by go_num, by rw [UP.out]; go_num, XR.out.trans (is_ext _ _)⟩
                    case measure => simp [intOf] <;> omega
              · obtain rfl : i = W.L.length := by omega
                have ER : Hid (rankL lb W.L.length = C.L.length) := Lib.hid (by rw [← FD.out.ln, HCn.out])
                rw [ER.out]
                have cw : CanW W lb := ⟨HC.out, RLA.out⟩
                have CW := Lib.hid cw
                have HCc : Hid (checkB C = true) := Lib.hid (by rw [← HCn.out]; exact can_check cw)
                have HC3 : Hid (C.L.length < 3000) := Lib.hid (by rw [← HCn.out, CW.out.clen]; have := CW.out.c23; have := HN.out; omega)
                have HCl : Hid (C.last = W.last) := Lib.hid (by rw [← HCn.out]; rfl)
                have X7 := Lib.hid (X5.out.trans xr)
                have B7 := Lib.hid (B5.out.ext xr)
                have BC7 := Lib.hid (BC5.out.ext xr)
                have WC7 := Lib.hid (WC5.out.ext xr)
                have CAc := Lib.hid (fun W2 (z : Ext wr W2) => all_ (WC7.out.ext z))
                simp only [cellsW] at CAc
                clear xr cw FD LS LA BS BA XR XC B5 BC5 WC5 X5 CLv
                obtain ⟨s1, s2, s3⟩ := BC7.out.rules
                go_upto_region 14 with (fail)
                refine (CAc.out _ (is_ext wr _)).mono ?_
                rintro e w8 ⟨v, rfl, hv, x8⟩
                obtain ⟨lc, gb, rfl, hlc, bb, _⟩ := hv.yes HCc.out
                rw [← HCn.out] at hlc
                have elc := can_all CW.out hlc
                rw [HCn.out] at elc
                subst elc
                have X8 := Lib.hid (X7.out.trans x8)
                have B8 := Lib.hid (B7.out.ext x8)
                have BC8 := Lib.hid (BC7.out.ext x8)
                have WC8 := Lib.hid (WC7.out.ext x8)
                have BB := Lib.hid bb
                clear r1 r2 r3 s1 s2 s3 hv hlc bb x8 CAc X7 B7 BC7 WC7
                go_wp2_with fail
                go_loopw [9] (fun iv wt => ∃ j : Nat, j ≤ C.L.length ∧ iv = .int .i64 j ∧ Ext w8 wt) (fun iv _ => C.L.length - (intOf iv).toNat)
                case atStart => exact ⟨0, Nat.zero_le _, rfl, Ext.refl _⟩
                case round =>
                  obtain ⟨j, hj, rfl, xt⟩ := hrel
                  have XT := Lib.hid xt
                  by_cases hlt2 : j < C.L.length
                  · have c1 := cell_sB' (BB.out.ext xt) j (by simpa using hlt2)
                    rw [sB_rep _ _ hlt2] at c1
                    have g1 := (BB.out.ext xt).lt
                    have jN : (j : Int) < (C.L.length : Int) := by omega
                    have hj3 : j < 3000 := by have := HC3.out; omega
                    clear xt
                    go_wp2_with fail
                    go_roundw
                    case rel => exact ⟨j + 1, by omega, by go_num, XT.out.trans (is_ext _ _)⟩
                    case measure => simp [intOf] <;> omega
                  · obtain rfl : j = C.L.length := by omega
                    have X9 := Lib.hid (X8.out.trans xt)
                    have B9 := Lib.hid (B8.out.ext xt)
                    have BC9 := Lib.hid (BC8.out.ext xt)
                    have WC9 := Lib.hid (WC8.out.ext xt)
                    clear xt X8 B8 BC8 WC8 BB XT
                    obtain ⟨r1, r2, r3⟩ := B9.out.rules
                    go_upto_region 20 with (fail)
                    refine (CWo.out _ X9.out HC.out).mono ?_
                    rintro e w9 ⟨⟨xx, rfl, nx⟩, x9⟩
                    obtain ⟨x0L, xfs, x0D, x0Re, x0Wa, x0Du, x0Sn⟩ := xx
                    obtain ⟨xL, xL', fL⟩ := Own.form nx.L
                    obtain ⟨xD, xD', fD⟩ := Own.form nx.dead
                    obtain ⟨xRe, xRe', fRe⟩ := Own.form nx.R.re
                    obtain ⟨xWa, xWa', fWa⟩ := Own.form nx.R.wa
                    obtain ⟨xDu, xDu', fDu⟩ := Own.form nx.R.du
                    obtain ⟨xSn, xSn', fSn⟩ := Own.form nx.R.sn
                    simp only at fL fD fRe fWa fDu fSn
                    subst fL fD fRe fWa fDu fSn
                    simp only
                    have X10 := Lib.hid (X9.out.trans x9)
                    have B10 := Lib.hid (B9.out.ext x9)
                    have BC10 := Lib.hid (BC9.out.ext x9)
                    have WC10 := Lib.hid (WC9.out.ext x9)
                    have HSZ : Hid (w.heap.size ≤ wr.heap.size) := Lib.hid X9.out.below.size
                    have NX := Lib.hid nx
                    have Y9 := Lib.hid x9
                    clear r1 r2 r3 nx x9 CWo CCn
                    go_upto_region 20 with (fail)
                    refine wp_name (fun w10 hw => ?_)
                    have y10 := (Ext.refl w9).alloc' hw
                    have Bx := Lib.hid (show Blk w10 w9.heap.size 31 #[.slice xL W.L.length xL', .slice xD W.dead.length xD', .int .i64 W.last, .int .i64 W.R.proc, .int .i64 W.R.frame, .slice xRe W.R.ready.length xRe', .slice xWa W.R.wait.length xWa', .slice xDu W.R.due.length xDu', .string W.R.out, .string W.R.inp, .int .i64 W.R.how, .int .i64 W.R.exit, .slice xSn W.R.snaps.length xSn'] from Blk.new' hw)
                    have B11 := Lib.hid (B10.out.ext y10)
                    have NX11 := Lib.hid (NX.out.ext y10)
                    have Y11 := Lib.hid (Y9.out.trans y10)
                    have hgx : wr.heap.size ≤ w9.heap.size := Y9.out.below.size
                    generalize w9.heap.size = gx at *
                    clear hw y10 B10 BC10 WC10 NX X10 Y9
                    obtain ⟨r1, r2, r3⟩ := B11.out.rules
                    obtain ⟨t1, t2, t3⟩ := Bx.out.rules
                    obtain ⟨i0, hi0, hz0, hz1, hz2⟩ := info_parts infoT
                    have hl1 : IntKind.i64.wrap (W.last + 1) = W.last + 1 := by
                      have a := HL.out
                      have b := HW.out.nums.last.1
                      simp (disch := omega) only [IntWalk.i64_in]
                    have hn3 : W.L.length < 3000 := HN.out
                    have XW : Ext w10 ((w10.alloc (.cells #[.bool true, .int .i64 W.L.length] 37)).alloc (.cells #[.int .i64 10, .int .i64 1, .int .i64 (W.last + 1), .bool false, .slice (some ⟨w10.heap.size, 0, none⟩) 1 1, .string ByteArray.empty] 57)) := ((Ext.refl w10).alloc _).alloc _
                    have XWH := Lib.hid XW
                    have NL := Lib.hid (NX11.out.L.ext XW)
                    clear XW
                    go_upto_region 21 with (at_builtin; refine wpList_append_own_at _ rfl (.tmp 106) (.tmp 116) 24 rfl wr.heap.size 57 i0 (.agg #[.int .i64 0, .int .i64 0, .int .i64 0, .bool false, .slice none 0 0, .string ByteArray.empty]) 6 72 Try.underlying24 hi0 hz0 hz1 hz2 rfl (by decide) (.slice xL W.L.length xL') W.L.length (flat W.L.length 6 (cL W.L xfs)) rfl ?c0 ⟨w10.heap.size + 1, 0, none⟩ 1 1 [.int .i64 10, .int .i64 1, .int .i64 (W.last + 1), .bool false, .slice (some ⟨w10.heap.size, 0, none⟩) 1 1, .string ByteArray.empty] rfl rfl ?c1 ?c2 ?c3 ?c4 ?c5 ?_)
                    case c0 => exact NL.out
                    case c1 => intro j u hj; exact hj
                    case c2 => exact ⟨rfl, rfl, rfl, rfl, rfl, rfl⟩
                    case c3 => unfold maxLen; omega
                    case c4 => omega
                    case c5 => have := Y11.out.below.size; omega
                    intro v' w11 o6 g6 _ _
                    have KW : Keep (fun j => Value.ownBlock (.slice xL W.L.length xL') = some j) ((w10.alloc (.cells #[.bool true, .int .i64 W.L.length] 37)).alloc (.cells #[.int .i64 10, .int .i64 1, .int .i64 (W.last + 1), .bool false, .slice (some ⟨w10.heap.size, 0, none⟩) 1 1, .string ByteArray.empty] 57)) w11 := ⟨g6.os, g6.tape, g6.output, g6.size, fun k hk hn => g6.block k hk (fun e => hn e.symm)⟩
                    have KT6 : KT [57] _ w11 := Keep.mono KW (fun j hj => by obtain ⟨_, cs, hb⟩ := Own.block NL.out hj; exact ⟨_, _, by simp, hb⟩)
                    have BV : Blk ((w10.alloc (.cells #[.bool true, .int .i64 W.L.length] 37)).alloc (.cells #[.int .i64 10, .int .i64 1, .int .i64 (W.last + 1), .bool false, .slice (some ⟨w10.heap.size, 0, none⟩) 1 1, .string ByteArray.empty] 57)) w10.heap.size 37 #[.bool true, .int .i64 W.L.length] := (Blk.new w10 _ _).alloc _
                    have OW : Own ((w10.alloc (.cells #[.bool true, .int .i64 W.L.length] 37)).alloc (.cells #[.int .i64 10, .int .i64 1, .int .i64 (W.last + 1), .bool false, .slice (some ⟨w10.heap.size, 0, none⟩) 1 1, .string ByteArray.empty] 57)) wr.heap.size 37 (.slice (some ⟨w10.heap.size, 0, none⟩) 1 1) 1 2 (cF [⟨true, (W.L.length : Int)⟩]) := own_val1 (u := ⟨true, (W.L.length : Int)⟩) BV (Y11.out.below.size)
                    have AP : ∀ q, q < W.L.length → Apart (.slice (some ⟨w10.heap.size, 0, none⟩) 1 1) (xfs q) := fun q hq k hk hu => by
                      have e : w10.heap.size = k := by simpa [Value.ownBlock] using hk
                      obtain ⟨_, cs, hb⟩ := (NX11.out.fs q hq).block hu
                      have := hb.lt
                      omega
                    have hin : in64 (W.last + 1) := by have a := HL.out; have b := HW.out.nums.last.1; exact ⟨by omega, by omega⟩
                    have NX12 := NewW.push (t := newT W) (NX11.out.ext XWH.out) KW o6 OW AP ⟨by show in64 10; exact ⟨by omega, by omega⟩, by show in64 1; exact ⟨by omega, by omega⟩, hin, by show (0 : Nat) ≤ maxLen; omega, fun v hv => by
                      have e : v = ⟨true, (W.L.length : Int)⟩ := List.mem_singleton.1 hv
                      subst e
                      exact ⟨by show (-9223372036854775808 : Int) ≤ (W.L.length : Int); omega, by show (W.L.length : Int) ≤ 9223372036854775807; omega⟩⟩
                    have X11 : Ext wr w11 := Ext.of_below (Keep.below (Y11.out.trans XWH.out).below KW (Y11.out.trans XWH.out).below.size (fun i hi e => by have := (Own.block NL.out e).1; omega))
                    have BxN := Lib.hid (blk_kt (Bx.out.ext XWH.out) KT6 (by decide))
                    obtain ⟨gn, cn, rfl, _⟩ := o6.form (by omega)
                    have X11H := Lib.hid X11
                    have NXH := Lib.hid NX12
                    obtain ⟨fsN, hfs⟩ : ∃ f, (fun i => if i = W.L.length then Value.slice (some ⟨w10.heap.size, 0, none⟩) 1 1 else xfs i) = f := ⟨_, rfl⟩
                    rw [hfs] at NXH
                    clear hfs KW KT6 BV OW AP hin NX12 X11 o6 g6 NX11 NL XWH t1 t2 t3 r1 r2 r3
                    obtain ⟨t1, t2, t3⟩ := BxN.out.rules
                    go_upto_region 21 with (fail)
                    refine wp_name (fun w12 hw => ?_)
                    have bx : Blk w12 gx 31 #[.slice (some ⟨gn, 0, none⟩) (W.L.length + 1) cn, .slice xD W.dead.length xD', .int .i64 W.last, .int .i64 W.R.proc, .int .i64 W.R.frame, .slice xRe W.R.ready.length xRe', .slice xWa W.R.wait.length xWa', .slice xDu W.R.due.length xDu', .string W.R.out, .string W.R.inp, .int .i64 W.R.how, .int .i64 W.R.exit, .slice xSn W.R.snaps.length xSn'] := by rw [hw]; have := BxN.out.set 0 (.slice (some ⟨gn, 0, none⟩) (W.L.length + 1) cn); simpa using this
                    have kg : KT [31] w11 w12 := by rw [hw]; exact kt_set BxN.out 0 _
                    have x12 : Ext wr w12 := by rw [hw]; exact X11H.out.setNew (p := ⟨gx, 0, none⟩) hgx _
                    have NX13 := Lib.hid (NXH.out.kt kg (by decide) (by decide) (by decide) (by decide) (by decide) (by decide))
                    have BX12 := Lib.hid bx
                    have X12 := Lib.hid x12
                    clear hw bx kg x12 NXH BxN X11H t1 t2 t3
                    obtain ⟨t1, t2, t3⟩ := BX12.out.rules
                    obtain ⟨iB, hB, hB0, hB1, hB2⟩ := info_parts infoB'
                    go_upto_if 122 with (fail)
                    go_cut [122] from 123 to 127 (fun vI wx => ∃ d nd dc, Ext wr wx ∧ NewW wx wr.heap.size (midW W) ⟨.slice (some ⟨gn, 0, none⟩) (W.L.length + 1) cn, fsN, .slice d nd dc, .slice xRe W.R.ready.length xRe', .slice xWa W.R.wait.length xWa', .slice xDu W.R.due.length xDu', .slice xSn W.R.snaps.length xSn'⟩ ∧ Blk wx gx 31 #[.slice (some ⟨gn, 0, none⟩) (W.L.length + 1) cn, .slice d nd dc, .int .i64 W.last, .int .i64 W.R.proc, .int .i64 W.R.frame, .slice xRe W.R.ready.length xRe', .slice xWa W.R.wait.length xWa', .slice xDu W.R.due.length xDu', .string W.R.out, .string W.R.inp, .int .i64 W.R.how, .int .i64 W.R.exit, .slice xSn W.R.snaps.length xSn'])
                    case first =>
                      by_cases hd : W.dead.length = 0
                      · have hd' : ¬ ((0 : Int) < (W.dead.length : Int)) := by omega
                        have HD := Lib.hid hd
                        clear hd
                        go_wp2_with fail
                        go_meet
                        exact ⟨xD, W.dead.length, xD', X12.out, by rw [← mid0 HD.out]; exact NX13.out, BX12.out⟩
                      · have hd' : (0 : Int) < (W.dead.length : Int) := by omega
                        have hdl := dead_len HC.out
                        have XV := Lib.hid ((Ext.refl w12).alloc (.cells #[.bool false] 4))
                        have ND := Lib.hid (NX13.out.dead.ext XV.out)
                        go_wp2_with (at_builtin; refine wpList_append_own_at _ rfl (.tmp 124) (.tmp 125) 25 rfl wr.heap.size 4 iB (.bool false) 1 1 Try.underlying25 hB hB0 hB1 hB2 rfl (by decide) (.slice xD W.dead.length xD') W.dead.length (flat W.dead.length 1 (cB W.dead)) rfl ?d0 ⟨w12.heap.size, 0, none⟩ 1 1 [.bool false] rfl rfl ?d1 ?d2 ?d3 ?d4 ?d5 ?_)
                        case d0 => exact ND.out
                        case d2 => rfl
                        case d3 => unfold maxLen; omega
                        case d4 => omega
                        case d5 => have := X12.out.below.size; omega
                        intro v2 w13 o7 g7 _ _
                        have KW : Keep (fun j => Value.ownBlock (.slice xD W.dead.length xD') = some j) (w12.alloc (.cells #[.bool false] 4)) w13 := ⟨g7.os, g7.tape, g7.output, g7.size, fun k hk hn => g7.block k hk (fun e => hn e.symm)⟩
                        have KT7 : KT [4] _ w13 := Keep.mono KW (fun j hj => by obtain ⟨_, cs, hb⟩ := Own.block ND.out hj; exact ⟨_, _, by simp, hb⟩)
                        have NX14 := NewW.pushD (NX13.out.ext XV.out) KW o7
                        have X13 : Ext wr w13 := Ext.of_below (Keep.below (X12.out.trans XV.out).below KW (X12.out.trans XV.out).below.size (fun i hi e => by have := (Own.block ND.out e).1; omega))
                        have BX13 := Lib.hid (blk_kt (BX12.out.ext XV.out) KT7 (by decide))
                        obtain ⟨gd, cd, rfl, _⟩ := o7.form (by omega)
                        have X13H := Lib.hid X13
                        have NXM : NewW w13 wr.heap.size (midW W) ⟨.slice (some ⟨gn, 0, none⟩) (W.L.length + 1) cn, fsN, .slice (some ⟨gd, 0, none⟩) (W.dead.length + 1) cd, .slice xRe W.R.ready.length xRe', .slice xWa W.R.wait.length xWa', .slice xDu W.R.due.length xDu', .slice xSn W.R.snaps.length xSn'⟩ := by rw [← mid1 hd]; exact NX14
                        have NXMH := Lib.hid NXM
                        have KS := Lib.hid (kt_set BX13.out 1 (.slice (some ⟨gd, 0, none⟩) (W.dead.length + 1) cd))
                        clear KW KT7 NX14 X13 NXM o7 g7 t1 t2 t3
                        obtain ⟨t1, t2, t3⟩ := BX13.out.rules
                        go_wp2_with fail
                        go_meet
                        exact ⟨some ⟨gd, 0, none⟩, W.dead.length + 1, cd, X13H.out.setNew (p := ⟨gx, 1, none⟩) hgx _, NXMH.out.kt KS.out (by decide) (by decide) (by decide) (by decide) (by decide) (by decide), by have := BX13.out.set 1 (.slice (some ⟨gd, 0, none⟩) (W.dead.length + 1) cd); simpa using this⟩
                    case rest =>
                      obtain ⟨d, nd, dc, xw, nm, bm⟩ := hcut
                      have XWW := Lib.hid xw
                      have NM0 := Lib.hid nm
                      have BM0 := Lib.hid bm
                      clear xw nm bm t1 t2 t3 NX13 BX12 X12 Y11 Bx
                      obtain ⟨t1, t2, t3⟩ := BM0.out.rules
                      go_upto_region 24 with (fail)
                      refine wp_name (fun w20 hw => ?_)
                      have bx : Blk w20 gx 31 #[.slice (some ⟨gn, 0, none⟩) (W.L.length + 1) cn, .slice d nd dc, .int .i64 (W.last + 1), .int .i64 W.R.proc, .int .i64 W.R.frame, .slice xRe W.R.ready.length xRe', .slice xWa W.R.wait.length xWa', .slice xDu W.R.due.length xDu', .string W.R.out, .string W.R.inp, .int .i64 W.R.how, .int .i64 W.R.exit, .slice xSn W.R.snaps.length xSn'] := by rw [hw]; have := BM0.out.set 2 (.int .i64 (W.last + 1)); simpa using this
                      have kg : KT [31] wc w20 := by rw [hw]; exact kt_set BM0.out 2 _
                      have x20 : Ext wr w20 := by rw [hw]; exact XWW.out.setNew (p := ⟨gx, 2, none⟩) hgx _
                      have hin : in64 (W.last + 1) := by have a := HL.out; have b := HW.out.nums.last.1; exact ⟨by omega, by omega⟩
                      have nm : NewW w20 wr.heap.size (moreW W) _ := (NM0.out.kt kg (by decide) (by decide) (by decide) (by decide) (by decide) (by decide)).last (W.last + 1) hin
                      have BM := Lib.hid bx
                      have X20 := Lib.hid x20
                      have CCm : Hid (Calls Try.prog 14 #[.agg #[.slice (some ⟨gn, 0, none⟩) (W.L.length + 1) cn, .slice d nd dc, .int .i64 (W.last + 1), .int .i64 W.R.proc, .int .i64 W.R.frame, .slice xRe W.R.ready.length xRe', .slice xWa W.R.wait.length xWa', .slice xDu W.R.due.length xDu', .string W.R.out, .string W.R.inp, .int .i64 W.R.how, .int .i64 W.R.exit, .slice xSn W.R.snaps.length xSn']] w20 fun e w' => ∃ cs, e = .returned (.agg cs) ∧ CanP w20.heap.size (moreW W) cs w' ∧ Ext w20 w') := by
                        have q := canonP nm.at_ (more_check HC.out HL.out HN.out)
                        exact Lib.hid q
                      clear hw bx kg x20 hin nm NM0 BM0 XWW t1 t2 t3
                      obtain ⟨t1, t2, t3⟩ := BM.out.rules
                      go_upto_region 25 with (fail)
                      refine CCm.out.mono ?_
                      rintro e w21 ⟨cs, rfl, ⟨ly, xy, rly, rfl, ny⟩, x21⟩
                      have ely := more_list HC.out RLA.out rly
                      subst ely
                      have ec := canon_more CW.out
                      rw [HCn.out] at ec
                      rw [ec] at ny ⊢
                      obtain ⟨y0L, yfs, y0D, y0Re, y0Wa, y0Du, y0Sn⟩ := xy
                      obtain ⟨yL, yL', fL⟩ := Own.form ny.L
                      obtain ⟨yD, yD', fD⟩ := Own.form ny.dead
                      obtain ⟨yRe, yRe', fRe⟩ := Own.form ny.R.re
                      obtain ⟨yWa, yWa', fWa⟩ := Own.form ny.R.wa
                      obtain ⟨yDu, yDu', fDu⟩ := Own.form ny.R.du
                      obtain ⟨ySn, ySn', fSn⟩ := Own.form ny.R.sn
                      simp only at fL fD fRe fWa fDu fSn
                      subst fL fD fRe fWa fDu fSn
                      simp only [cellsW]
                      have NY := Lib.hid ny
                      have X21 := Lib.hid x21
                      clear ny rly ec x21 CCm t1 t2 t3 BM
                      go_upto_region 25 with (fail)
                      refine wp_name (fun w22 hw => ?_)
                      have by0 : Blk w22 w21.heap.size 31 #[.slice yL C.L.length yL', .slice yD C.dead.length yD', .int .i64 (W.last + 1), .int .i64 C.R.proc, .int .i64 C.R.frame, .slice yRe C.R.ready.length yRe', .slice yWa C.R.wait.length yWa', .slice yDu C.R.due.length yDu', .string C.R.out, .string C.R.inp, .int .i64 C.R.how, .int .i64 C.R.exit, .slice ySn C.R.snaps.length ySn'] := Blk.new' hw
                      have x22 := (Ext.refl w21).alloc' hw
                      have NY2 := Lib.hid (NY.out.ext x22)
                      have BY2 := Lib.hid by0
                      have X22 := Lib.hid ((X20.out.trans X21.out).trans x22)
                      have SZ21 : wr.heap.size ≤ w21.heap.size := (X20.out.trans X21.out).below.size
                      generalize w21.heap.size = gy at *
                      clear hw by0 x22 NY X20
                      obtain ⟨t1, t2, t3⟩ := BY2.out.rules
                      have hl2 : W.last + 1 - 1 = W.last := by omega
                      have hl3 : IntKind.i64.wrap W.last = W.last := by
                        have a := HL.out
                        have b := HW.out.nums.last.1
                        simp (disch := omega) only [IntWalk.i64_in]
                      go_upto_region 26 with (fail)
                      refine wp_name (fun w23 hw => ?_)
                      have x23 : Ext wr w23 := by rw [hw]; exact X22.out.setNew (p := ⟨gy, 2, none⟩) SZ21 _
                      have kg : KT [31] w22 w23 := by rw [hw]; exact kt_set BY2.out 2 _
                      have byf : Blk w23 gy 31 #[.slice yL C.L.length yL', .slice yD C.dead.length yD', .int .i64 C.last, .int .i64 C.R.proc, .int .i64 C.R.frame, .slice yRe C.R.ready.length yRe', .slice yWa C.R.wait.length yWa', .slice yDu C.R.due.length yDu', .string C.R.out, .string C.R.inp, .int .i64 C.R.how, .int .i64 C.R.exit, .slice ySn C.R.snaps.length ySn'] := by rw [hw]; have := BY2.out.set 2 (.int .i64 W.last); rw [HCl.out]; simpa using this
                      have nyf := Lib.hid ((NY2.out.kt kg (by decide) (by decide) (by decide) (by decide) (by decide) (by decide)).last C.last (by rw [HCl.out]; exact HW.out.nums.last))
                      have WY := Lib.hid (show WorldAt w23 _ C from nyf.out.at_)
                      have BQf := Lib.hid (B9.out.ext x23)
                      have BCf := Lib.hid (BC9.out.ext x23)
                      have WCf := Lib.hid (WC9.out.ext x23)
                      have BYf := Lib.hid byf
                      have X23 := Lib.hid (X9.out.trans x23)
                      have K1 := Lib.hid (fun W2 (z : Ext w23 W2) => canonP (WCf.out.ext z) HCc.out)
                      have K2 := Lib.hid (fun W2 (z : Ext w23 W2) xx (hx : WorldAt W2 xx C) => lequal hx (WCf.out.ext z))
                      have K3 := Lib.hid (fun W2 (z : Ext w23 W2) => lequal (WY.out.ext z) (WCf.out.ext z))
                      have K4 := Lib.hid (fun W2 (z : Ext w23 W2) => same_ (HW.out.ext (X23.out.trans z)) (WCf.out.ext z))
                      simp only [cellsW, eqE_refl] at K1 K2 K3 K4
                      have HT2 : Hid (∀ l2, RchL C.L.length (nxW C true) (rootsOf C.R) l2 → canonW C l2 = C) := Lib.hid (fun l2 h2 => by
                        have e := HCn.out
                        subst e
                        exact canon_twice CW.out h2)
                      have HT1 : Hid (∀ l2, RchL W.L.length (nxW W true) (rootsOf W.R) l2 → canonW W l2 = C) := Lib.hid (fun l2 h2 => by
                        rw [h2.uniq RLA.out]; exact HCn.out)
                      clear hw x23 kg byf nyf t1 t2 t3 BY2 NY2 X22 X21
                      obtain ⟨u1, u2, u3⟩ := BQf.out.rules
                      have uq0 : w23.cell? ⟨q, 0, none⟩ = some (.slice aL W.L.length aL') := u1 0
                      have uq1 : w23.cell? ⟨q, 1, none⟩ = some (.slice aD W.dead.length aD') := u1 1
                      have uq2 : w23.cell? ⟨q, 2, none⟩ = some (.int .i64 W.last) := u1 2
                      have uq3 : w23.cell? ⟨q, 3, none⟩ = some (.int .i64 W.R.proc) := u1 3
                      have uq4 : w23.cell? ⟨q, 4, none⟩ = some (.int .i64 W.R.frame) := u1 4
                      have uq5 : w23.cell? ⟨q, 5, none⟩ = some (.slice aRe W.R.ready.length aRe') := u1 5
                      have uq6 : w23.cell? ⟨q, 6, none⟩ = some (.slice aWa W.R.wait.length aWa') := u1 6
                      have uq7 : w23.cell? ⟨q, 7, none⟩ = some (.slice aDu W.R.due.length aDu') := u1 7
                      have uq8 : w23.cell? ⟨q, 8, none⟩ = some (.string W.R.out) := u1 8
                      have uq9 : w23.cell? ⟨q, 9, none⟩ = some (.string W.R.inp) := u1 9
                      have uq10 : w23.cell? ⟨q, 10, none⟩ = some (.int .i64 W.R.how) := u1 10
                      have uq11 : w23.cell? ⟨q, 11, none⟩ = some (.int .i64 W.R.exit) := u1 11
                      have uq12 : w23.cell? ⟨q, 12, none⟩ = some (.slice aSn W.R.snaps.length aSn') := u1 12
                      clear u1
                      obtain ⟨v1, v2, v3⟩ := BCf.out.rules
                      have vq0 : w23.cell? ⟨qc, 0, none⟩ = some (.slice zL C.L.length zL') := v1 0
                      have vq1 : w23.cell? ⟨qc, 1, none⟩ = some (.slice zD C.dead.length zD') := v1 1
                      have vq2 : w23.cell? ⟨qc, 2, none⟩ = some (.int .i64 C.last) := v1 2
                      have vq3 : w23.cell? ⟨qc, 3, none⟩ = some (.int .i64 C.R.proc) := v1 3
                      have vq4 : w23.cell? ⟨qc, 4, none⟩ = some (.int .i64 C.R.frame) := v1 4
                      have vq5 : w23.cell? ⟨qc, 5, none⟩ = some (.slice zRe C.R.ready.length zRe') := v1 5
                      have vq6 : w23.cell? ⟨qc, 6, none⟩ = some (.slice zWa C.R.wait.length zWa') := v1 6
                      have vq7 : w23.cell? ⟨qc, 7, none⟩ = some (.slice zDu C.R.due.length zDu') := v1 7
                      have vq8 : w23.cell? ⟨qc, 8, none⟩ = some (.string C.R.out) := v1 8
                      have vq9 : w23.cell? ⟨qc, 9, none⟩ = some (.string C.R.inp) := v1 9
                      have vq10 : w23.cell? ⟨qc, 10, none⟩ = some (.int .i64 C.R.how) := v1 10
                      have vq11 : w23.cell? ⟨qc, 11, none⟩ = some (.int .i64 C.R.exit) := v1 11
                      have vq12 : w23.cell? ⟨qc, 12, none⟩ = some (.slice zSn C.R.snaps.length zSn') := v1 12
                      clear v1
                      obtain ⟨s1, s2, s3⟩ := BYf.out.rules
                      have sq0 : w23.cell? ⟨gy, 0, none⟩ = some (.slice yL C.L.length yL') := s1 0
                      have sq1 : w23.cell? ⟨gy, 1, none⟩ = some (.slice yD C.dead.length yD') := s1 1
                      have sq2 : w23.cell? ⟨gy, 2, none⟩ = some (.int .i64 C.last) := s1 2
                      have sq3 : w23.cell? ⟨gy, 3, none⟩ = some (.int .i64 C.R.proc) := s1 3
                      have sq4 : w23.cell? ⟨gy, 4, none⟩ = some (.int .i64 C.R.frame) := s1 4
                      have sq5 : w23.cell? ⟨gy, 5, none⟩ = some (.slice yRe C.R.ready.length yRe') := s1 5
                      have sq6 : w23.cell? ⟨gy, 6, none⟩ = some (.slice yWa C.R.wait.length yWa') := s1 6
                      have sq7 : w23.cell? ⟨gy, 7, none⟩ = some (.slice yDu C.R.due.length yDu') := s1 7
                      have sq8 : w23.cell? ⟨gy, 8, none⟩ = some (.string C.R.out) := s1 8
                      have sq9 : w23.cell? ⟨gy, 9, none⟩ = some (.string C.R.inp) := s1 9
                      have sq10 : w23.cell? ⟨gy, 10, none⟩ = some (.int .i64 C.R.how) := s1 10
                      have sq11 : w23.cell? ⟨gy, 11, none⟩ = some (.int .i64 C.R.exit) := s1 11
                      have sq12 : w23.cell? ⟨gy, 12, none⟩ = some (.slice ySn C.R.snaps.length ySn') := s1 12
                      clear s1
                      go_region_held3 (fun w' => w'.cell? ⟨q, 0, none⟩ = some (.slice aL W.L.length aL') ∧ w'.cell? ⟨q, 1, none⟩ = some (.slice aD W.dead.length aD') ∧ w'.cell? ⟨q, 2, none⟩ = some (.int .i64 W.last) ∧ w'.cell? ⟨q, 3, none⟩ = some (.int .i64 W.R.proc) ∧ w'.cell? ⟨q, 4, none⟩ = some (.int .i64 W.R.frame) ∧ w'.cell? ⟨q, 5, none⟩ = some (.slice aRe W.R.ready.length aRe') ∧ w'.cell? ⟨q, 6, none⟩ = some (.slice aWa W.R.wait.length aWa') ∧ w'.cell? ⟨q, 7, none⟩ = some (.slice aDu W.R.due.length aDu') ∧ w'.cell? ⟨q, 8, none⟩ = some (.string W.R.out) ∧ w'.cell? ⟨q, 9, none⟩ = some (.string W.R.inp) ∧ w'.cell? ⟨q, 10, none⟩ = some (.int .i64 W.R.how) ∧ w'.cell? ⟨q, 11, none⟩ = some (.int .i64 W.R.exit) ∧ w'.cell? ⟨q, 12, none⟩ = some (.slice aSn W.R.snaps.length aSn') ∧ w'.cell? ⟨qc, 0, none⟩ = some (.slice zL C.L.length zL') ∧ w'.cell? ⟨qc, 1, none⟩ = some (.slice zD C.dead.length zD') ∧ w'.cell? ⟨qc, 2, none⟩ = some (.int .i64 C.last) ∧ w'.cell? ⟨qc, 3, none⟩ = some (.int .i64 C.R.proc) ∧ w'.cell? ⟨qc, 4, none⟩ = some (.int .i64 C.R.frame) ∧ w'.cell? ⟨qc, 5, none⟩ = some (.slice zRe C.R.ready.length zRe') ∧ w'.cell? ⟨qc, 6, none⟩ = some (.slice zWa C.R.wait.length zWa') ∧ w'.cell? ⟨qc, 7, none⟩ = some (.slice zDu C.R.due.length zDu') ∧ w'.cell? ⟨qc, 8, none⟩ = some (.string C.R.out) ∧ w'.cell? ⟨qc, 9, none⟩ = some (.string C.R.inp) ∧ w'.cell? ⟨qc, 10, none⟩ = some (.int .i64 C.R.how) ∧ w'.cell? ⟨qc, 11, none⟩ = some (.int .i64 C.R.exit) ∧ w'.cell? ⟨qc, 12, none⟩ = some (.slice zSn C.R.snaps.length zSn') ∧ w'.cell? ⟨gy, 0, none⟩ = some (.slice yL C.L.length yL') ∧ w'.cell? ⟨gy, 1, none⟩ = some (.slice yD C.dead.length yD') ∧ w'.cell? ⟨gy, 2, none⟩ = some (.int .i64 C.last) ∧ w'.cell? ⟨gy, 3, none⟩ = some (.int .i64 C.R.proc) ∧ w'.cell? ⟨gy, 4, none⟩ = some (.int .i64 C.R.frame) ∧ w'.cell? ⟨gy, 5, none⟩ = some (.slice yRe C.R.ready.length yRe') ∧ w'.cell? ⟨gy, 6, none⟩ = some (.slice yWa C.R.wait.length yWa') ∧ w'.cell? ⟨gy, 7, none⟩ = some (.slice yDu C.R.due.length yDu') ∧ w'.cell? ⟨gy, 8, none⟩ = some (.string C.R.out) ∧ w'.cell? ⟨gy, 9, none⟩ = some (.string C.R.inp) ∧ w'.cell? ⟨gy, 10, none⟩ = some (.int .i64 C.R.how) ∧ w'.cell? ⟨gy, 11, none⟩ = some (.int .i64 C.R.exit) ∧ w'.cell? ⟨gy, 12, none⟩ = some (.slice ySn C.R.snaps.length ySn')) (first | go_keep | with_reducible exact ⟨((is_ext w23 _).below.cell (p := ⟨q, 0, none⟩) u3).trans uq0, ((is_ext w23 _).below.cell (p := ⟨q, 1, none⟩) u3).trans uq1, ((is_ext w23 _).below.cell (p := ⟨q, 2, none⟩) u3).trans uq2, ((is_ext w23 _).below.cell (p := ⟨q, 3, none⟩) u3).trans uq3, ((is_ext w23 _).below.cell (p := ⟨q, 4, none⟩) u3).trans uq4, ((is_ext w23 _).below.cell (p := ⟨q, 5, none⟩) u3).trans uq5, ((is_ext w23 _).below.cell (p := ⟨q, 6, none⟩) u3).trans uq6, ((is_ext w23 _).below.cell (p := ⟨q, 7, none⟩) u3).trans uq7, ((is_ext w23 _).below.cell (p := ⟨q, 8, none⟩) u3).trans uq8, ((is_ext w23 _).below.cell (p := ⟨q, 9, none⟩) u3).trans uq9, ((is_ext w23 _).below.cell (p := ⟨q, 10, none⟩) u3).trans uq10, ((is_ext w23 _).below.cell (p := ⟨q, 11, none⟩) u3).trans uq11, ((is_ext w23 _).below.cell (p := ⟨q, 12, none⟩) u3).trans uq12, ((is_ext w23 _).below.cell (p := ⟨qc, 0, none⟩) v3).trans vq0, ((is_ext w23 _).below.cell (p := ⟨qc, 1, none⟩) v3).trans vq1, ((is_ext w23 _).below.cell (p := ⟨qc, 2, none⟩) v3).trans vq2, ((is_ext w23 _).below.cell (p := ⟨qc, 3, none⟩) v3).trans vq3, ((is_ext w23 _).below.cell (p := ⟨qc, 4, none⟩) v3).trans vq4, ((is_ext w23 _).below.cell (p := ⟨qc, 5, none⟩) v3).trans vq5, ((is_ext w23 _).below.cell (p := ⟨qc, 6, none⟩) v3).trans vq6, ((is_ext w23 _).below.cell (p := ⟨qc, 7, none⟩) v3).trans vq7, ((is_ext w23 _).below.cell (p := ⟨qc, 8, none⟩) v3).trans vq8, ((is_ext w23 _).below.cell (p := ⟨qc, 9, none⟩) v3).trans vq9, ((is_ext w23 _).below.cell (p := ⟨qc, 10, none⟩) v3).trans vq10, ((is_ext w23 _).below.cell (p := ⟨qc, 11, none⟩) v3).trans vq11, ((is_ext w23 _).below.cell (p := ⟨qc, 12, none⟩) v3).trans vq12, ((is_ext w23 _).below.cell (p := ⟨gy, 0, none⟩) s3).trans sq0, ((is_ext w23 _).below.cell (p := ⟨gy, 1, none⟩) s3).trans sq1, ((is_ext w23 _).below.cell (p := ⟨gy, 2, none⟩) s3).trans sq2, ((is_ext w23 _).below.cell (p := ⟨gy, 3, none⟩) s3).trans sq3, ((is_ext w23 _).below.cell (p := ⟨gy, 4, none⟩) s3).trans sq4, ((is_ext w23 _).below.cell (p := ⟨gy, 5, none⟩) s3).trans sq5, ((is_ext w23 _).below.cell (p := ⟨gy, 6, none⟩) s3).trans sq6, ((is_ext w23 _).below.cell (p := ⟨gy, 7, none⟩) s3).trans sq7, ((is_ext w23 _).below.cell (p := ⟨gy, 8, none⟩) s3).trans sq8, ((is_ext w23 _).below.cell (p := ⟨gy, 9, none⟩) s3).trans sq9, ((is_ext w23 _).below.cell (p := ⟨gy, 10, none⟩) s3).trans sq10, ((is_ext w23 _).below.cell (p := ⟨gy, 11, none⟩) s3).trans sq11, ((is_ext w23 _).below.cell (p := ⟨gy, 12, none⟩) s3).trans sq12⟩) ((first | (go_at_call 22; refine (K3.out _ (is_ext w23 _)).mono ?_; rintro e w32 ⟨rfl, x32⟩; have i32 : IsExt w23 w32 := ⟨(is_ext w23 _).trans x32⟩; clear x32) | (go_at_call 22; refine (K2.out _ (is_ext w23 _) _ (N30.out.at_.ext (is_ext w30 _))).mono ?_; rintro e w31 ⟨rfl, x31⟩; have i31 : IsExt w23 w31 := ⟨(is_ext w23 _).trans x31⟩; clear x31) | (go_at_call 14; refine (K1.out _ (is_ext w23 _)).mono ?_; rintro e w30 ⟨cs, rfl, hcs, x30⟩; obtain ⟨l2, xc2, rl2, rfl, n2⟩ := hcs; rw [HT2.out l2 rl2] at n2 ⊢; obtain ⟨m0L, mfs, m0D, m0Re, m0Wa, m0Du, m0Sn⟩ := xc2; obtain ⟨mL, mL', fL⟩ := Own.form n2.L; obtain ⟨mD, mD', fD⟩ := Own.form n2.dead; obtain ⟨mRe, mRe', fRe⟩ := Own.form n2.R.re; obtain ⟨mWa, mWa', fWa⟩ := Own.form n2.R.wa; obtain ⟨mDu, mDu', fDu⟩ := Own.form n2.R.du; obtain ⟨mSn, mSn', fSn⟩ := Own.form n2.R.sn; simp only at fL fD fRe fWa fDu fSn; subst fL fD fRe fWa fDu fSn; simp only [cellsW]; have i30 : IsExt w23 w30 := ⟨(is_ext w23 _).trans x30⟩; have N30 := Lib.hid n2; clear n2 rl2 x30) | (go_at_call 26; refine (K4.out _ (is_ext w23 _)).mono ?_; rintro e w33 ⟨rr, rfl, _, _, hy, x33⟩; obtain ⟨l3, l4, r3', r4', hr⟩ := hy HC.out HCc.out; rw [HT1.out l3 r3', HT2.out l4 r4', eqW_refl] at hr; subst hr; have i33 : IsExt w23 w33 := ⟨(is_ext w23 _).trans x33⟩; clear hy r3' r4' x33) | (go_at_call 16; refine (awake8 _).mono ?_; rintro e w34 ⟨rfl, x34⟩; have i34 : IsExt w23 w34 := ⟨(is_ext w23 _).trans x34⟩; clear x34)))
                      all_goals
                        go_wp2_with fail
                        go_ret
                        exact ⟨ret_bool rfl, X23.out.trans (is_ext w23 _)⟩
end
end Go.Proofs.Ytadhkmplhgcgkaa.World
namespace Go.Proofs.Ytadhkmplhgcgkaa.World
open Go.RowKit Go.ChangeShapes Go.WideShapes Go.Deep Go.Proofs.Ytadhkmplhgcgkaa.Plain
set_option linter.unusedVariables false
section
variable {H : Type} {enc : TypeId × Value → H} {w : World}
def Td (H : Type) (enc : TypeId × Value → H) (w : World) (t : TypeId) (cs : List Value) : Prop := ∃ fuel y, DataW.trod (H := H) enc Try.prog w 0 (fun _ => true) true fuel t cs = some y
theorem td_int {t : TypeId} {cs : List Value} (ht : Try.prog.underlying t = some (.int .i64)) (h : Td H enc w t cs) : ∃ n, cs = [.int .i64 n] ∧ in64 n := by
  obtain ⟨f, y, h⟩ := h
  obtain ⟨n, e, _, hw⟩ := DataW.trod_int ht h
  exact ⟨n, e, bounds_i64 hw⟩
theorem td_bool {t : TypeId} {cs : List Value} (ht : Try.prog.underlying t = some .bool) (h : Td H enc w t cs) : ∃ b, cs = [.bool b] := by
  obtain ⟨f, y, h⟩ := h
  obtain ⟨b, e, _⟩ := DataW.trod_bool ht h
  exact ⟨b, e⟩
theorem td_str {t : TypeId} {cs : List Value} (ht : Try.prog.underlying t = some .string) (h : Td H enc w t cs) : ∃ s, cs = [.string s] ∧ s.size ≤ maxLen := by
  obtain ⟨f, y, h⟩ := h
  obtain ⟨s, e, _, hl⟩ := DataW.trod_string ht h
  exact ⟨s, e, hl⟩
theorem td_struct {t : TypeId} {fs : Array Field} {cs : List Value} (ht : Try.prog.underlying t = some (.struct fs)) (h : Td H enc w t cs) :
    cs.length = Try.prog.cellsOf t ∧ ∀ (i : Nat) (f : Field), fs[i]? = some f → Td H enc w f.type ((cs.drop f.offset).take (Try.prog.cellsOf f.type)) := by
  obtain ⟨f, y, h⟩ := h
  obtain ⟨xs, n, _, _, hl, hx, hf⟩ := DataW.trod_struct ht h
  refine ⟨hl, fun i fd hi => ?_⟩
  have hlt : i < fs.size := (Array.getElem?_eq_some_iff.1 hi).1
  have q := hf i fd hi
  rw [List.getElem?_eq_getElem (by omega)] at q
  exact ⟨n, _, q⟩
/-- a slice's elements, each with its cells -/
theorem td_slice {t e : TypeId} {cs : List Value} (ht : Try.prog.underlying t = some (.slice e)) {C : Nat} (hC : Try.prog.cellsOf e = C) (hp : 0 < C) (h : Td H enc w t cs) :
    ∃ A n cap, cs = [.slice A n cap] ∧ n ≤ cap ∧ cap ≤ maxLen ∧ ∀ i, i < n → ∃ b off cs', A = some ⟨b, off, none⟩ ∧ b < w.heap.size ∧ (∀ j, j < C → w.cell? ⟨b, off + i * C + j, none⟩ = cs'[j]?) ∧ Td H enc w e cs' := by
  obtain ⟨f, y, h⟩ := h
  rcases open_slice ht h with ⟨hcs, _⟩ | ⟨x, l, c, m, n, D, Pl, hcs, hb, hl, hm, hmm, hx, hi⟩
  · exact ⟨none, 0, 0, hcs, Nat.le_refl _, by unfold maxLen; omega, fun i hi => absurd hi (Nat.not_lt_zero i)⟩
  · simp only [if_true] at hmm
    subst hmm
    refine ⟨some x, l, m, hcs, hl, hm, fun i hil => ?_⟩
    obtain ⟨cs', hc, ht'⟩ := hi i (by omega)
    rw [hC] at hc
    obtain ⟨_, hcl, hat⟩ := World.cells?_some hc
    obtain ⟨b, off, spot⟩ := x
    obtain ⟨cz, hz, _⟩ := hi 0 (by omega)
    rw [hC] at hz
    obtain ⟨_, hzl, hzt⟩ := World.cells?_some hz
    have h0 := hzt 0 (by omega)
    rw [List.getElem?_eq_getElem (by omega)] at h0
    have hspot : spot = none := by simpa [Addr.add] using World.cell?_spot h0
    subst hspot
    have ea : ∀ k, (⟨b, off, none⟩ : Addr).add k = ⟨b, off + k, none⟩ := fun k => by unfold Addr.add; split <;> simp_all
    refine ⟨b, off, cs', rfl, ?_, fun j hj => ?_, ⟨n, _, ht'⟩⟩
    · rw [Go.Deep.add_add, ea] at h0
      rcases Nat.lt_or_ge b w.heap.size with hlt | hge
      · exact hlt
      · simp [World.cell?, Array.getElem?_eq_none hge] at h0
    · have q := hat j hj
      rw [Go.Deep.add_add, ea, ← Nat.add_assoc] at q
      exact q
theorem choose_cells {α : Type} [Inhabited α] {n : Nat} {p : Nat → α → Prop} (h : ∀ i, i < n → ∃ x, p i x) : ∃ f : Nat → α, ∀ i, i < n → p i (f i) := choose_lt h
theorem td_ints {t : TypeId} {cs : List Value} (ht : Try.prog.underlying t = some (.slice 3)) (h : Td H enc w t cs) : ∃ v l, cs = [v] ∧ IntsAt w v l ∧ ∀ x ∈ l, in64 x := by
  obtain ⟨A, n, cap, rfl, h1, h2, h3⟩ := td_slice ht (C := 1) (by kernel_rfl) (by omega) h
  have key : ∀ i, i < n → ∃ z : Int, (∃ b off, A = some ⟨b, off, none⟩ ∧ b < w.heap.size ∧ w.cell? ⟨b, off + i, none⟩ = some (.int .i64 z)) ∧ in64 z := fun i hi => by
    obtain ⟨b, off, cs', ea, hb, hc, ht'⟩ := h3 i hi
    obtain ⟨z, rfl, hz⟩ := td_int Try.underlying3 ht'
    have := hc 0 (by omega)
    exact ⟨z, ⟨b, off, ea, hb, by simpa using this⟩, hz⟩
  obtain ⟨f, hf⟩ := choose_lt key
  refine ⟨_, (List.range n).map f, rfl, ?_, fun x hx => ?_⟩
  · refine ⟨A, cap, by simp, by simpa using h1, by unfold maxLen at h2; omega, fun i hi => ?_⟩
    have hi' : i < n := by simpa using hi
    obtain ⟨⟨b, off, ea, hb, hc⟩, _⟩ := hf i hi'
    refine ⟨b, off, ea, hb, fun j hj => ?_⟩
    obtain rfl : j = 0 := by omega
    rw [Nat.mul_one, Nat.add_zero, hc, List.getD_eq_getElem?_getD, List.getElem?_map, List.getElem?_range hi']; rfl
  · obtain ⟨i, hi, rfl⟩ := List.mem_map.1 hx
    exact (hf i (List.mem_range.1 hi)).2
theorem td_bools {t : TypeId} {cs : List Value} (ht : Try.prog.underlying t = some (.slice 4)) (h : Td H enc w t cs) : ∃ v l, cs = [v] ∧ BoolsAt w v l := by
  obtain ⟨A, n, cap, rfl, h1, h2, h3⟩ := td_slice ht (C := 1) (by kernel_rfl) (by omega) h
  have key : ∀ i, i < n → ∃ z : Bool, ∃ b off, A = some ⟨b, off, none⟩ ∧ b < w.heap.size ∧ w.cell? ⟨b, off + i, none⟩ = some (.bool z) := fun i hi => by
    obtain ⟨b, off, cs', ea, hb, hc, ht'⟩ := h3 i hi
    obtain ⟨z, rfl⟩ := td_bool Try.underlying4 ht'
    have := hc 0 (by omega)
    exact ⟨z, b, off, ea, hb, by simpa using this⟩
  obtain ⟨f, hf⟩ := choose_lt key
  refine ⟨_, (List.range n).map f, rfl, ?_⟩
  refine ⟨A, cap, by simp, by simpa using h1, by unfold maxLen at h2; omega, fun i hi => ?_⟩
  have hi' : i < n := by simpa using hi
  obtain ⟨b, off, ea, hb, hc⟩ := hf i hi'
  refine ⟨b, off, ea, hb, fun j hj => ?_⟩
  obtain rfl : j = 0 := by omega
  rw [Nat.mul_one, Nat.add_zero, hc, List.getD_eq_getElem?_getD, List.getElem?_map, List.getElem?_range hi']; rfl
theorem td_strs {t : TypeId} {cs : List Value} (ht : Try.prog.underlying t = some (.slice 9)) (h : Td H enc w t cs) : ∃ v l, cs = [v] ∧ StrsAt w v l ∧ ∀ x ∈ l, x.size ≤ maxLen := by
  obtain ⟨A, n, cap, rfl, h1, h2, h3⟩ := td_slice ht (C := 1) (by kernel_rfl) (by omega) h
  have key : ∀ i, i < n → ∃ z : ByteArray, (∃ b off, A = some ⟨b, off, none⟩ ∧ b < w.heap.size ∧ w.cell? ⟨b, off + i, none⟩ = some (.string z)) ∧ z.size ≤ maxLen := fun i hi => by
    obtain ⟨b, off, cs', ea, hb, hc, ht'⟩ := h3 i hi
    obtain ⟨z, rfl, hz⟩ := td_str Try.underlying9 ht'
    have := hc 0 (by omega)
    exact ⟨z, ⟨b, off, ea, hb, by simpa using this⟩, hz⟩
  obtain ⟨f, hf⟩ := choose_lt key
  refine ⟨_, (List.range n).map f, rfl, ?_, fun x hx => ?_⟩
  · refine ⟨A, cap, by simp, by simpa using h1, by unfold maxLen at h2; omega, fun i hi => ?_⟩
    have hi' : i < n := by simpa using hi
    obtain ⟨⟨b, off, ea, hb, hc⟩, _⟩ := hf i hi'
    refine ⟨b, off, ea, hb, fun j hj => ?_⟩
    obtain rfl : j = 0 := by omega
    unfold sAt
    rw [Nat.mul_one, Nat.add_zero, hc, List.getD_eq_getElem?_getD, List.getElem?_map, List.getElem?_range hi']; rfl
  · obtain ⟨i, hi, rfl⟩ := List.mem_map.1 hx
    exact (hf i (List.mem_range.1 hi)).2
theorem take1 {cs : List Value} {k n : Nat} {v : Value} (hn : n = 1) (h : (cs.drop k).take n = [v]) : cs[k]? = some v := by
  subst hn
  have : ((cs.drop k).take 1)[0]? = some v := by rw [h]; rfl
  rw [List.getElem?_take_of_lt (by omega), List.getElem?_drop] at this
  simpa using this
theorem td_val {cs : List Value} (h : Td H enc w 37 cs) : ∃ u : PV, cs[0]? = some (.bool u.obj) ∧ cs[1]? = some (.int .i64 u.n) ∧ in64 u.n := by
  obtain ⟨_, hf⟩ := td_struct Try.underlying37 h
  obtain ⟨b, e0⟩ := td_bool Try.underlying4 (hf 0 _ rfl)
  obtain ⟨n, e1, hn⟩ := td_int Try.underlying3 (hf 1 _ rfl)
  exact ⟨⟨b, n⟩, take1 (by kernel_rfl) e0, take1 (by kernel_rfl) e1, hn⟩
theorem td_wait {cs : List Value} (h : Td H enc w 75 cs) : ∃ u : Int × Int, cs[0]? = some (.int .i64 u.1) ∧ cs[1]? = some (.int .i64 u.2) ∧ in64 u.1 ∧ in64 u.2 := by
  obtain ⟨_, hf⟩ := td_struct Try.underlying75 h
  obtain ⟨m, e0, hm⟩ := td_int Try.underlying3 (hf 0 _ rfl)
  obtain ⟨n, e1, hn⟩ := td_int Try.underlying3 (hf 1 _ rfl)
  exact ⟨⟨m, n⟩, take1 (by kernel_rfl) e0, take1 (by kernel_rfl) e1, hm, hn⟩
instance : Inhabited PV := ⟨dV⟩
instance : Inhabited PT := ⟨dT⟩
instance : Inhabited Value := ⟨undef⟩
theorem td_vals {t : TypeId} {cs : List Value} (ht : Try.prog.underlying t = some (.slice 37)) (h : Td H enc w t cs) : ∃ v l, cs = [v] ∧ ValsAt w v l ∧ ∀ x ∈ l, in64 x.n := by
  obtain ⟨A, n, cap, rfl, h1, h2, h3⟩ := td_slice ht (C := 2) (by kernel_rfl) (by omega) h
  have key : ∀ i, i < n → ∃ z : PV, (∃ b off, A = some ⟨b, off, none⟩ ∧ b < w.heap.size ∧ w.cell? ⟨b, off + i * 2, none⟩ = some (.bool z.obj) ∧ w.cell? ⟨b, off + i * 2 + 1, none⟩ = some (.int .i64 z.n)) ∧ in64 z.n := fun i hi => by
    obtain ⟨b, off, cs', ea, hb, hc, ht'⟩ := h3 i hi
    obtain ⟨z, e0, e1, hz⟩ := td_val ht'
    exact ⟨z, ⟨b, off, ea, hb, (hc 0 (by omega)).trans e0, (hc 1 (by omega)).trans e1⟩, hz⟩
  obtain ⟨f, hf⟩ := choose_lt key
  refine ⟨_, (List.range n).map f, rfl, ?_, fun x hx => ?_⟩
  · refine ⟨A, cap, by simp, by simpa using h1, by unfold maxLen at h2; omega, fun i hi => ?_⟩
    have hi' : i < n := by simpa using hi
    obtain ⟨⟨b, off, ea, hb, hc0, hc1⟩, _⟩ := hf i hi'
    have ev : vAt ((List.range n).map f) i = f i := by unfold vAt; rw [List.getD_eq_getElem?_getD, List.getElem?_map, List.getElem?_range hi']; rfl
    refine ⟨b, off, ea, hb, fun j hj => ?_⟩
    rw [ev]
    rcases (show j = 0 ∨ j = 1 by omega) with rfl | rfl
    · exact hc0
    · exact hc1
  · obtain ⟨i, hi, rfl⟩ := List.mem_map.1 hx
    exact (hf i (List.mem_range.1 hi)).2
theorem td_waits {t : TypeId} {cs : List Value} (ht : Try.prog.underlying t = some (.slice 75)) (h : Td H enc w t cs) : ∃ v l, cs = [v] ∧ WaitsAt w v l ∧ ∀ x ∈ l, in64 x.1 ∧ in64 x.2 := by
  obtain ⟨A, n, cap, rfl, h1, h2, h3⟩ := td_slice ht (C := 2) (by kernel_rfl) (by omega) h
  have key : ∀ i, i < n → ∃ z : Int × Int, (∃ b off, A = some ⟨b, off, none⟩ ∧ b < w.heap.size ∧ w.cell? ⟨b, off + i * 2, none⟩ = some (.int .i64 z.1) ∧ w.cell? ⟨b, off + i * 2 + 1, none⟩ = some (.int .i64 z.2)) ∧ in64 z.1 ∧ in64 z.2 := fun i hi => by
    obtain ⟨b, off, cs', ea, hb, hc, ht'⟩ := h3 i hi
    obtain ⟨z, e0, e1, hz⟩ := td_wait ht'
    exact ⟨z, ⟨b, off, ea, hb, (hc 0 (by omega)).trans e0, (hc 1 (by omega)).trans e1⟩, hz⟩
  obtain ⟨f, hf⟩ := choose_lt key
  refine ⟨_, (List.range n).map f, rfl, ?_, fun x hx => ?_⟩
  · refine ⟨A, cap, by simp, by simpa using h1, by unfold maxLen at h2; omega, fun i hi => ?_⟩
    have hi' : i < n := by simpa using hi
    obtain ⟨⟨b, off, ea, hb, hc0, hc1⟩, _⟩ := hf i hi'
    have ev : wAt ((List.range n).map f) i = f i := by unfold wAt; rw [List.getD_eq_getElem?_getD, List.getElem?_map, List.getElem?_range hi']; rfl
    refine ⟨b, off, ea, hb, fun j hj => ?_⟩
    rw [ev]
    rcases (show j = 0 ∨ j = 1 by omega) with rfl | rfl
    · exact hc0
    · exact hc1
  · obtain ⟨i, hi, rfl⟩ := List.mem_map.1 hx
    exact (hf i (List.mem_range.1 hi)).2
theorem td_thing {cs : List Value} (h : Td H enc w 57 cs) : ∃ (t : PT) (vF : Value), (∀ j, j < 6 → cs[j]? = some (cT t vF j)) ∧ ValsAt w vF t.F ∧ (in64 t.cls ∧ in64 t.fmt ∧ in64 t.hash ∧ t.B.size ≤ maxLen ∧ ∀ v ∈ t.F, in64 v.n) := by
  obtain ⟨_, hf⟩ := td_struct Try.underlying57 h
  obtain ⟨c, e0, h0⟩ := td_int Try.underlying3 (hf 0 _ rfl)
  obtain ⟨f, e1, h1⟩ := td_int Try.underlying3 (hf 1 _ rfl)
  obtain ⟨hs, e2, h2⟩ := td_int Try.underlying3 (hf 2 _ rfl)
  obtain ⟨b, e3⟩ := td_bool Try.underlying4 (hf 3 _ rfl)
  obtain ⟨vF, F, e4, h4, h4'⟩ := td_vals Try.underlying39 (hf 4 _ rfl)
  obtain ⟨s, e5, h5⟩ := td_str Try.underlying9 (hf 5 _ rfl)
  refine ⟨⟨c, f, hs, b, F, s⟩, vF, fun j hj => ?_, h4, h0, h1, h2, h5, h4'⟩
  rcases (show j = 0 ∨ j = 1 ∨ j = 2 ∨ j = 3 ∨ j = 4 ∨ j = 5 by omega) with rfl | rfl | rfl | rfl | rfl | rfl
  · exact take1 (by kernel_rfl) e0
  · exact take1 (by kernel_rfl) e1
  · exact take1 (by kernel_rfl) e2
  · exact take1 (by kernel_rfl) e3
  · exact take1 (by kernel_rfl) e4
  · exact take1 (by kernel_rfl) e5
theorem td_things {t : TypeId} {cs : List Value} (ht : Try.prog.underlying t = some (.slice 57)) (h : Td H enc w t cs) : ∃ v L fs, cs = [v] ∧ ThingsAt w v L fs ∧ ∀ t ∈ L, in64 t.cls ∧ in64 t.fmt ∧ in64 t.hash ∧ t.B.size ≤ maxLen ∧ ∀ v ∈ t.F, in64 v.n := by
  obtain ⟨A, n, cap, rfl, h1, h2, h3⟩ := td_slice ht (C := 6) (by kernel_rfl) (by omega) h
  have key : ∀ i, i < n → ∃ z : PT × Value, (∃ b off, A = some ⟨b, off, none⟩ ∧ b < w.heap.size ∧ ∀ j, j < 6 → w.cell? ⟨b, off + i * 6 + j, none⟩ = some (cT z.1 z.2 j)) ∧ ValsAt w z.2 z.1.F ∧ (in64 z.1.cls ∧ in64 z.1.fmt ∧ in64 z.1.hash ∧ z.1.B.size ≤ maxLen ∧ ∀ v ∈ z.1.F, in64 v.n) := fun i hi => by
    obtain ⟨b, off, cs', ea, hb, hc, ht'⟩ := h3 i hi
    obtain ⟨z, vF, e0, hv, hz⟩ := td_thing ht'
    exact ⟨(z, vF), ⟨b, off, ea, hb, fun j hj => (hc j hj).trans (e0 j hj)⟩, hv, hz⟩
  obtain ⟨f, hf⟩ := choose_lt key
  have ev : ∀ i, i < n → tAt ((List.range n).map (fun i => (f i).1)) i = (f i).1 := fun i hi' => by unfold tAt; rw [List.getD_eq_getElem?_getD, List.getElem?_map, List.getElem?_range hi']; rfl
  refine ⟨_, (List.range n).map (fun i => (f i).1), fun i => (f i).2, rfl, ⟨?_, fun i hi => ?_⟩, fun x hx => ?_⟩
  · refine ⟨A, cap, by simp, by simpa using h1, by unfold maxLen at h2; omega, fun i hi => ?_⟩
    have hi' : i < n := by simpa using hi
    obtain ⟨⟨b, off, ea, hb, hc⟩, _⟩ := hf i hi'
    refine ⟨b, off, ea, hb, fun j hj => ?_⟩
    rw [ev i hi']
    exact hc j hj
  · have hi' : i < n := by simpa using hi
    rw [ev i hi']
    exact (hf i hi').2.1
  · obtain ⟨i, hi, rfl⟩ := List.mem_map.1 hx
    exact (hf i (List.mem_range.1 hi)).2.2
theorem take_at {cs : List Value} {k n j : Nat} {v : Value} (h : ((cs.drop k).take n)[j]? = some v) (hj : j < n) : cs[k + j]? = some v := by
  rw [List.getElem?_take_of_lt hj, List.getElem?_drop] at h
  exact h
set_option maxRecDepth 100000 in
/-- the argument -/
theorem open_world {r : Reach} {b0 : Nat} {v : Value} {d : DataW H} {p : List MemPlace} (hv : Value.okWide Try.prog w r b0 31 v) (h : DataW.Trod enc Try.prog w 0 (fun _ => true) true 31 v d p) :
    ∃ (x : WV) (W : PW), v = .agg (cellsW W x) ∧ WorldAt w x W := by
  obtain ⟨cs, rfl, hsz⟩ := okWide_struct Try.underlying31 hv
  obtain ⟨fuel, hf⟩ := h
  have hT : Td H enc w 31 cs.toList := ⟨fuel, _, by simpa [Value.cells] using hf⟩
  obtain ⟨hl, hF⟩ := td_struct Try.underlying31 hT
  obtain ⟨vL, L, fs, e0, hL, hN⟩ := td_things Try.underlying24 (hF 0 _ rfl)
  obtain ⟨vD, dead, e1, hD⟩ := td_bools Try.underlying25 (hF 1 _ rfl)
  obtain ⟨last, e2, hlast⟩ := td_int Try.underlying3 (hF 2 _ rfl)
  obtain ⟨hl2, hR⟩ := td_struct Try.underlying29 (hF 3 _ rfl)
  obtain ⟨proc, r0, n0⟩ := td_int Try.underlying3 (hR 0 _ rfl)
  obtain ⟨frame, r1, n1⟩ := td_int Try.underlying3 (hR 1 _ rfl)
  obtain ⟨vRe, ready, r2, hre, n2⟩ := td_ints Try.underlying22 (hR 2 _ rfl)
  obtain ⟨vWa, wait, r3, hwa, n3⟩ := td_waits Try.underlying26 (hR 3 _ rfl)
  obtain ⟨vDu, due, r4, hdu, n4⟩ := td_ints Try.underlying22 (hR 4 _ rfl)
  obtain ⟨out, r5, n5⟩ := td_str Try.underlying9 (hR 5 _ rfl)
  obtain ⟨inp, r6, n6⟩ := td_str Try.underlying9 (hR 6 _ rfl)
  obtain ⟨how, r7, n7⟩ := td_int Try.underlying3 (hR 7 _ rfl)
  obtain ⟨exit, r8, n8⟩ := td_int Try.underlying3 (hR 8 _ rfl)
  obtain ⟨vSn, snaps, r9, hsn, n9⟩ := td_strs Try.underlying27 (hR 9 _ rfl)
  refine ⟨⟨vL, fs, vD, vRe, vWa, vDu, vSn⟩, ⟨L, dead, last, ⟨proc, frame, ready, wait, due, out, inp, how, exit, snaps⟩⟩, ?_, ⟨hL, hD, hre, hwa, hdu, hsn, ⟨hlast, n0, n1, n7, n8, n5, n6, n2, n4, n3, n9, hN⟩⟩⟩
  have c0 := take1 (by kernel_rfl) e0
  have c1 := take1 (by kernel_rfl) e1
  have c2 := take1 (by kernel_rfl) e2
  have hc10 : Try.prog.cellsOf 29 = 10 := by kernel_rfl
  have hc13 : Try.prog.cellsOf 31 = 13 := by kernel_rfl
  have g : ∀ {j : Nat} {u : Value}, j < 10 → ∀ {n : Nat}, n = 1 → (((cs.toList.drop 3).take (Try.prog.cellsOf 29)).drop j).take n = [u] → cs.toList[3 + j]? = some u := fun {j u} hj {n} hn hq => take_at (take1 hn hq) (by rw [hc10]; exact hj)
  have d0 := g (j := 0) (by omega) (by kernel_rfl) r0
  have d1 := g (j := 1) (by omega) (by kernel_rfl) r1
  have d2 := g (j := 2) (by omega) (by kernel_rfl) r2
  have d3 := g (j := 3) (by omega) (by kernel_rfl) r3
  have d4 := g (j := 4) (by omega) (by kernel_rfl) r4
  have d5 := g (j := 5) (by omega) (by kernel_rfl) r5
  have d6 := g (j := 6) (by omega) (by kernel_rfl) r6
  have d7 := g (j := 7) (by omega) (by kernel_rfl) r7
  have d8 := g (j := 8) (by omega) (by kernel_rfl) r8
  have d9 := g (j := 9) (by omega) (by kernel_rfl) r9
  have hs : cs.size = 13 := hsz.trans hc13
  congr 1
  apply Array.ext_getElem?
  intro i
  rw [← Array.getElem?_toList]
  by_cases hi : i < 13
  · rcases (show i = 0 ∨ i = 1 ∨ i = 2 ∨ i = 3 ∨ i = 4 ∨ i = 5 ∨ i = 6 ∨ i = 7 ∨ i = 8 ∨ i = 9 ∨ i = 10 ∨ i = 11 ∨ i = 12 by omega) with rfl | rfl | rfl | rfl | rfl | rfl | rfl | rfl | rfl | rfl | rfl | rfl | rfl
    · exact c0
    · exact c1
    · exact c2
    · exact d0
    · exact d1
    · exact d2
    · exact d3
    · exact d4
    · exact d5
    · exact d6
    · exact d7
    · exact d8
    · exact d9
  · rw [List.getElem?_eq_none (by simpa [hs] using hi), Array.getElem?_eq_none (by simp [cellsW]; omega)]
end
end Go.Proofs.Ytadhkmplhgcgkaa.World
