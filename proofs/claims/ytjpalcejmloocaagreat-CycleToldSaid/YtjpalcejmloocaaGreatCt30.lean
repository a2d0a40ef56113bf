/-
  ReachPlain, ReachPlain2, as one text (a claim has at most 60 files).
-/
import Derived.Test.YtjpalcejmloocaaGreatCt02
import Derived.Test.YtjpalcejmloocaaGreatCt22
namespace Go.Proofs.YtjpalcejmloocaaGreat.World
open Go.RowKit Go.Proofs.YtjpalcejmloocaaGreat.Plain
set_option linter.unusedVariables false
/-- what can be come to: from the roots, step by step -/
inductive Rch (nx : Nat → List Int) (roots : List Int) : Nat → Prop
  | root {r : Int} (h : r ∈ roots) : Rch nx roots r.toNat
  | step {i : Nat} {j : Int} (h : Rch nx roots i) (hj : j ∈ nx i) : Rch nx roots j.toNat
def sB (seen : List Bool) (i : Nat) : Bool := seen.getD i false
def unseen (l : List Bool) : Nat := l.countP (fun b => !b)
theorem sB_set (l : List Bool) (i j : Nat) (hi : i < l.length) : sB (l.set i true) j = if j = i then true else sB l j := by
  unfold sB
  rw [List.getD_eq_getElem?_getD, List.getD_eq_getElem?_getD, List.getElem?_set]
  by_cases e : i = j
  · subst e; rw [if_pos rfl, if_pos hi, if_pos rfl]; rfl
  · rw [if_neg e, if_neg (fun h => e h.symm)]
theorem sB_lt {l : List Bool} {i : Nat} (h : sB l i = true) : i < l.length := by
  rcases Nat.lt_or_ge i l.length with q | q
  · exact q
  · unfold sB at h; rw [List.getD_eq_getElem?_getD, List.getElem?_eq_none q] at h; cases h
theorem unseen_set (l : List Bool) : ∀ i, i < l.length → sB l i = false → unseen (l.set i true) + 1 = unseen l := by
  induction l with
  | nil => intro i hi; exact absurd hi (by simp)
  | cons b l ih =>
    intro i hi hb
    cases i with
    | zero =>
      have e : b = false := hb
      subst e
      unfold unseen
      rw [List.set_cons_zero, List.countP_cons, List.countP_cons]
      simp
    | succ i =>
      have q := ih i (by simpa using hi) (by unfold sB at hb ⊢; simpa using hb)
      unfold unseen at q ⊢
      rw [List.set_cons_succ, List.countP_cons, List.countP_cons]
      omega
theorem unseen_le (l : List Bool) : unseen l ≤ l.length := List.countP_le_length
section
variable {N : Nat} {nx : Nat → List Int} {roots : List Int} {seen : List Bool} {stack : List Int} {t : Nat} {don : List Int} {j : Int}
/-- between two pops -/
structure WS (N : Nat) (nx : Nat → List Int) (roots : List Int) (seen : List Bool) (stack : List Int) : Prop where
  len : seen.length = N
  stk : ∀ x ∈ stack, 0 ≤ x ∧ x < N ∧ sB seen x.toNat = true
  sound : ∀ i, sB seen i = true → Rch nx roots i
  rts : ∀ r ∈ roots, sB seen r.toNat = true
  closed : ∀ i : Nat, sB seen i = true → (i : Int) ∉ stack → ∀ j ∈ nx i, sB seen j.toNat = true
/-- one has been popped, some of its nexts are done -/
structure WM (N : Nat) (nx : Nat → List Int) (roots : List Int) (seen : List Bool) (stack : List Int) (t : Nat) (don : List Int) : Prop where
  len : seen.length = N
  stk : ∀ x ∈ stack, 0 ≤ x ∧ x < N ∧ sB seen x.toNat = true
  sound : ∀ i, sB seen i = true → Rch nx roots i
  rts : ∀ r ∈ roots, sB seen r.toNat = true
  closed : ∀ i : Nat, i ≠ t → sB seen i = true → (i : Int) ∉ stack → ∀ j ∈ nx i, sB seen j.toNat = true
  t : sB seen t = true
  don : ∀ j ∈ don, sB seen j.toNat = true
theorem WS.pop (h : WS N nx roots seen (stack ++ [j])) : WM N nx roots seen stack j.toNat [] ∧ 0 ≤ j ∧ j < N := by
  obtain ⟨a, b, c⟩ := h.stk j (by simp)
  refine ⟨⟨h.len, fun x hx => h.stk x (by simp [hx]), h.sound, h.rts, fun i hi hs hn => h.closed i hs (fun hm => ?_), c, fun j hj => by cases hj⟩, a, b⟩
  rcases List.mem_append.1 hm with hm | hm
  · exact hn hm
  · rw [List.mem_singleton] at hm; omega
theorem WM.skip (h : WM N nx roots seen stack t don) (hj : sB seen j.toNat = true) : WM N nx roots seen stack t (don ++ [j]) :=
  ⟨h.len, h.stk, h.sound, h.rts, h.closed, h.t, fun k hk => by
    rcases List.mem_append.1 hk with hk | hk
    · exact h.don k hk
    · rw [List.mem_singleton] at hk; subst hk; exact hj⟩
theorem WM.push (h : WM N nx roots seen stack t don) (hn : j ∈ nx t) (hr : 0 ≤ j ∧ j < N) (hj : sB seen j.toNat = false) : WM N nx roots (seen.set j.toNat true) (stack ++ [j]) t (don ++ [j]) ∧ unseen (seen.set j.toNat true) + 1 = unseen seen := by
  have hl : j.toNat < seen.length := by rw [h.len]; omega
  have S : ∀ i, sB (seen.set j.toNat true) i = if i = j.toNat then true else sB seen i := fun i => sB_set _ _ _ hl
  have up : ∀ i, sB seen i = true → sB (seen.set j.toNat true) i = true := fun i hi => by rw [S]; split <;> first | rfl | exact hi
  refine ⟨⟨by rw [List.length_set]; exact h.len, fun x hx => ?_, fun i hi => ?_, fun r hr' => up _ (h.rts r hr'), fun i hit hi hns k hk => ?_, up _ h.t, fun k hk => ?_⟩, unseen_set _ _ hl hj⟩
  · rcases List.mem_append.1 hx with hx | hx
    · obtain ⟨a, b, c⟩ := h.stk x hx; exact ⟨a, b, up _ c⟩
    · rw [List.mem_singleton] at hx; subst hx; exact ⟨hr.1, hr.2, by rw [S, if_pos rfl]⟩
  · rw [S] at hi
    by_cases e : i = j.toNat
    · subst e; exact .step (h.sound _ h.t) hn
    · rw [if_neg e] at hi; exact h.sound i hi
  · rw [S] at hi
    by_cases e : i = j.toNat
    · exact absurd (show (i : Int) ∈ stack ++ [j] by rw [e, Int.toNat_of_nonneg hr.1]; simp) hns
    · rw [if_neg e] at hi
      exact up _ (h.closed i hit hi (fun hm => hns (by simp [hm])) k hk)
  · rcases List.mem_append.1 hk with hk | hk
    · exact up _ (h.don k hk)
    · rw [List.mem_singleton] at hk; subst hk; rw [S, if_pos rfl]
theorem WM.fin (h : WM N nx roots seen stack t (nx t)) : WS N nx roots seen stack :=
  ⟨h.len, h.stk, h.sound, h.rts, fun i hi hn k hk => by
    by_cases e : i = t
    · subst e; exact h.don k hk
    · exact h.closed i e hi hn k hk⟩
theorem WS.start (hl : seen.length = N) (hr : ∀ r ∈ roots, 0 ≤ r ∧ r < N) (hs : ∀ i : Nat, sB seen i = true ↔ (i : Int) ∈ roots) : WS N nx roots seen roots := by
  have up : ∀ r ∈ roots, sB seen r.toNat = true := fun r hr' => (hs _).2 (by rw [Int.toNat_of_nonneg (hr r hr').1]; exact hr')
  refine ⟨hl, fun x hx => ⟨(hr x hx).1, (hr x hx).2, up x hx⟩, fun i hi => ?_, up, fun i hi hn => absurd ((hs i).1 hi) hn⟩
  have q := Rch.root (nx := nx) ((hs i).1 hi)
  rwa [Int.toNat_natCast] at q
/-- the end: what is seen is what can be come to -/
def RchL (N : Nat) (nx : Nat → List Int) (roots : List Int) (l : List Bool) : Prop := l.length = N ∧ ∀ i, sB l i = true ↔ Rch nx roots i
theorem WS.done (h : WS N nx roots seen []) : RchL N nx roots seen := by
  refine ⟨h.len, fun i => ⟨h.sound i, fun hr => ?_⟩⟩
  induction hr with
  | root hm => exact h.rts _ hm
  | step _ hj ih => exact h.closed _ ih (by simp) _ hj
theorem RchL.uniq {l l' : List Bool} (h : RchL N nx roots l) (h' : RchL N nx roots l') : l = l' := by
  refine List.ext_getElem? (fun i => ?_)
  have e : sB l i = sB l' i := by
    have a := h.2 i
    have b := h'.2 i
    cases hx : sB l i with
    | true => exact (b.2 (a.1 hx)).symm
    | false =>
      cases hy : sB l' i with
      | false => rfl
      | true => rw [a.2 (b.1 hy)] at hx; cases hx
  by_cases hi : i < N
  · have h1 : i < l.length := by rw [h.1]; exact hi
    have h2 : i < l'.length := by rw [h'.1]; exact hi
    unfold sB at e
    rw [List.getD_eq_getElem?_getD, List.getD_eq_getElem?_getD, List.getElem?_eq_getElem h1, List.getElem?_eq_getElem h2] at e
    rw [List.getElem?_eq_getElem h1, List.getElem?_eq_getElem h2]
    exact congrArg some e
  · rw [List.getElem?_eq_none (by rw [h.1]; omega), List.getElem?_eq_none (by rw [h'.1]; omega)]
end
/-! ### of a world -/
def objsOf (F : List PV) : List Int := (F.filter (fun v => v.obj)).map (fun v => v.n)
def goesOn (weak : Bool) (t : PT) : Bool := decide (t.fmt = 1) || (decide (t.fmt = 2) && weak)
def nextsOf (weak : Bool) (t : PT) : List Int := t.cls :: (if goesOn weak t then objsOf t.F else [])
def nxW (W : PW) (weak : Bool) (i : Nat) : List Int := nextsOf weak (tAt W.L i)
theorem objs_take (F : List PV) (i : Nat) (hi : i < F.length) : objsOf (F.take (i + 1)) = objsOf (F.take i) ++ (if (vAt F i).obj = true then [(vAt F i).n] else []) := by
  unfold objsOf vAt
  rw [List.take_succ_eq_append_getElem hi, List.filter_append, List.map_append, List.getD_eq_getElem?_getD, List.getElem?_eq_getElem hi]
  congr 1
  show ((List.filter _ [F[i]]).map _) = if F[i].obj = true then [F[i].n] else []
  by_cases h : F[i].obj = true
  · rw [if_pos h, List.filter_cons_of_pos h]; rfl
  · rw [if_neg h, List.filter_cons_of_neg h]; rfl
theorem objs_len (F : List PV) : (objsOf F).length ≤ F.length := by unfold objsOf; rw [List.length_map]; exact List.length_filter_le _ _
/-- a world that may be: its things, as far as a walk goes -/
theorem check_thing {W : PW} (h : checkB W = true) {i : Nat} (hi : i < W.L.length) : (0 ≤ (tAt W.L i).cls ∧ (tAt W.L i).cls < W.L.length) ∧ shapeB W.L.length (tAt W.L i) = true := by
  unfold checkB at h
  simp only [Bool.and_eq_true] at h
  have hT := h.2.2.1
  unfold thingsB at hT
  rw [Bool.and_eq_true] at hT
  have q := (allTo_iff _ _).1 hT.1 i hi
  unfold oneB thingB at q
  simp only [Bool.and_eq_true, decide_eq_true_eq] at q
  exact ⟨q.2.2.1, q.2.2.2.1⟩
theorem check_len {W : PW} (h : checkB W = true) : 23 ≤ W.L.length ∧ W.L.length ≤ 3000 := by
  unfold checkB at h
  simp only [Bool.and_eq_true, decide_eq_true_eq] at h
  exact h.1
theorem nexts_in {W : PW} (h : checkB W = true) {weak : Bool} {i : Nat} (hi : i < W.L.length) : ∀ j ∈ nxW W weak i, 0 ≤ j ∧ j < W.L.length := by
  obtain ⟨hc, hs⟩ := check_thing h hi
  intro j hj
  unfold nxW nextsOf at hj
  rcases List.mem_cons.1 hj with e | e
  · subst e; exact hc
  · by_cases g : goesOn weak (tAt W.L i) = true
    · rw [if_pos g] at e
      unfold objsOf at e
      obtain ⟨v, hv, rfl⟩ := List.mem_map.1 e
      obtain ⟨hv1, hv2⟩ := List.mem_filter.1 hv
      obtain ⟨q, hq, hqv⟩ := List.mem_iff_getElem.1 hv1
      have g3 : ¬ (tAt W.L i).fmt = 3 := by
        intro e3
        unfold goesOn at g
        rw [e3] at g
        simp at g
      have g12 : (tAt W.L i).fmt = 1 ∨ (tAt W.L i).fmt = 2 := by
        unfold goesOn at g
        simp only [Bool.or_eq_true, Bool.and_eq_true, decide_eq_true_eq] at g
        rcases g with g | g
        · exact .inl g
        · exact .inr g.1
      unfold shapeB at hs
      rw [if_neg g3, if_pos g12] at hs
      simp only [Bool.and_eq_true] at hs
      have f := (allTo_iff _ _).1 hs.2.2 q hq
      have ev : vAt (tAt W.L i).F q = v := by unfold vAt; rw [List.getD_eq_getElem?_getD, List.getElem?_eq_getElem hq, hqv]; rfl
      rw [ev] at f
      unfold fldB at f
      rw [if_pos hv2] at f
      exact of_decide_eq_true f
    · rw [if_neg g] at e; cases e
end Go.Proofs.YtjpalcejmloocaaGreat.World
namespace Go.Proofs.YtjpalcejmloocaaGreat.World
open Go.RowKit Go.Proofs.YtjpalcejmloocaaGreat.Plain
set_option linter.unusedVariables false
theorem mem_add1 {l : List Int} {x y : Int} (h : y ∈ add1 l x) : y ∈ l ∨ y = x := by
  unfold add1 at h
  split at h
  · rcases List.mem_append.1 h with h | h
    · exact .inl h
    · exact .inr (by rwa [List.mem_singleton] at h)
  · exact .inl h
theorem mem_fold {P : Int → Prop} (l : List Int) : ∀ l0 : List Int, (∀ y ∈ l0, P y) → (∀ y ∈ l, P y) → ∀ y ∈ l.foldl add1 l0, P y := by
  induction l with
  | nil => intro l0 h0 _ y hy; exact h0 y hy
  | cons a l ih =>
    intro l0 h0 hl y hy
    exact ih (add1 l0 a) (fun z hz => by
      rcases mem_add1 hz with q | q
      · exact h0 z q
      · subst q; exact hl _ (by simp)) (fun z hz => hl z (by simp [hz])) y hy
theorem mem_fold2 {P : Int → Prop} (l : List (Int × Int)) : ∀ l0 : List Int, (∀ y ∈ l0, P y) → (∀ p ∈ l, P p.1 ∧ P p.2) → ∀ y ∈ l.foldl (fun l p => add1 (add1 l p.1) p.2) l0, P y := by
  induction l with
  | nil => intro l0 h0 _ y hy; exact h0 y hy
  | cons a l ih =>
    intro l0 h0 hl y hy
    exact ih (add1 (add1 l0 a.1) a.2) (fun z hz => by
      rcases mem_add1 hz with q | q
      · rcases mem_add1 q with q | q
        · exact h0 z q
        · subst q; exact (hl a (by simp)).1
      · subst q; exact (hl a (by simp)).2) (fun p hp => hl p (by simp [hp])) y hy
theorem listOf_all {R : PR} {P : Int → Prop} (hp : P R.proc) (hf : P R.frame) (hr : ∀ y ∈ R.ready, P y) (hw : ∀ p ∈ R.wait, P p.1 ∧ P p.2) (hd : ∀ y ∈ R.due, P y) : ∀ y ∈ listOf R, P y := by
  unfold listOf
  refine mem_fold _ _ (mem_fold2 _ _ (mem_fold _ _ (fun y hy => ?_) hr) hw) hd
  rcases mem_add1 hy with q | q
  · rcases mem_add1 q with q | q
    · cases q
    · subst q; exact hp
  · subst q; exact hf
theorem there_in {W : PW} {y : Int} (h : thereB W y = true) : 0 ≤ y ∧ y < W.L.length := by
  unfold thereB liveB at h
  simp only [Bool.and_eq_true, decide_eq_true_eq] at h
  exact h.2.1
theorem thereL_all {W : PW} {l : List Int} (h : thereL W l = true) : ∀ y ∈ l, thereB W y = true := by
  intro y hy
  unfold thereL at h
  obtain ⟨q, hq, hqv⟩ := List.mem_iff_getElem.1 hy
  have f := (allTo_iff _ _).1 h q hq
  rw [List.getD_eq_getElem?_getD, List.getElem?_eq_getElem hq, hqv] at f
  exact f
theorem check_regs {W : PW} (h : checkB W = true) : regsB W = true := by
  unfold checkB at h
  simp only [Bool.and_eq_true] at h
  exact h.2.2.2.2
theorem roots_in {W : PW} (h : checkB W = true) : ∀ r ∈ rootsOf W.R, 0 ≤ r ∧ r < W.L.length := by
  have hl := check_len h
  have hg := check_regs h
  unfold regsB at hg
  simp only [Bool.and_eq_true, Bool.or_eq_true, decide_eq_true_eq] at hg
  obtain ⟨g1, g2, g3, g4, _, g6, _⟩ := hg
  have A : ∀ y ∈ listOf W.R, y = 0 ∨ thereB W y = true := listOf_all (P := fun y => y = 0 ∨ thereB W y = true) g1 g2 (fun y hy => .inr (thereL_all g3 y hy)) (fun p hp => by
    unfold waitB at g6
    obtain ⟨q, hq, hqv⟩ := List.mem_iff_getElem.1 hp
    have f := (allTo_iff _ _).1 g6 q hq
    unfold wAt at f
    rw [List.getD_eq_getElem?_getD, List.getElem?_eq_getElem hq, hqv] at f
    rw [Bool.and_eq_true] at f
    exact ⟨.inr f.1, .inr f.2⟩) (fun y hy => .inr (thereL_all g4 y hy))
  intro r hr
  unfold rootsOf at hr
  rcases List.mem_append.1 hr with q | q
  · unfold upTo at q
    obtain ⟨k, hk, rfl⟩ := List.mem_map.1 q
    have := List.mem_range.1 hk
    omega
  · obtain ⟨q1, q2⟩ := List.mem_filter.1 q
    have q2 := of_decide_eq_true q2
    rcases A r q1 with e | e
    · omega
    · exact there_in e
theorem regs_lens {W : PW} (h : checkB W = true) : 2 + W.R.ready.length + 2 * W.R.wait.length + W.R.due.length ≤ 4000 := by
  have hg := check_regs h
  unfold regsB at hg
  simp only [Bool.and_eq_true, Bool.or_eq_true, decide_eq_true_eq] at hg
  obtain ⟨_, _, _, _, _, _, g7, _⟩ := hg
  omega
theorem listOf_len (R : PR) : (listOf R).length ≤ 2 + R.ready.length + 2 * R.wait.length + R.due.length := by
  unfold listOf
  have e1 := fold_len R.due (R.wait.foldl (fun l p => add1 (add1 l p.1) p.2) (R.ready.foldl add1 (add1 (add1 [] R.proc) R.frame)))
  have e2 := fold_len2 R.wait (R.ready.foldl add1 (add1 (add1 [] R.proc) R.frame))
  have e3 := fold_len R.ready (add1 (add1 [] R.proc) R.frame)
  have e4 := add1_len [] R.proc
  have e5 := add1_len (add1 [] R.proc) R.frame
  simp only [List.length_nil] at e4
  omega
theorem roots_len {W : PW} (h : checkB W = true) : (rootsOf W.R).length ≤ 5000 := by
  have a := regs_lens h
  have b := listOf_len W.R
  have c := List.length_filter_le (fun x : Int => decide (23 ≤ x)) (listOf W.R)
  unfold rootsOf
  rw [List.length_append, upTo_len]
  omega
end Go.Proofs.YtjpalcejmloocaaGreat.World
