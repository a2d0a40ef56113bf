/-
  What can be come to, plain: the roots of a world that may be are things of it.
-/
import Derived.Test.YtadhkmplhgcgkaaReachPlain
import Derived.Test.YtadhkmplhgcgkaaReach4
namespace Go.Proofs.Ytadhkmplhgcgkaa.World
open Go.RowKit Go.Proofs.Ytadhkmplhgcgkaa.Plain
set_option linter.unusedVariables false
theorem mem_add1 {l : List Int} {x y : Int} (h : y ∈ add1 l x) : y ∈ l ∨ y = x := by
  unfold add1 at h
  split at h
  · rcases List.mem_append.1 h with h | h
    · exact .inl h
    · exact .inr (by rwa [List.mem_singleton] at h)
  · exact .inl h
theorem mem_fold {P : Int → Prop} (l : List Int) : ∀ l0 : List Int, (∀ y ∈ l0, P y) → (∀ y ∈ l, P y) → ∀ y ∈ l.foldl add1 l0, P y := by
  induction l with
  | nil => intro l0 h0 _ y hy; exact h0 y hy
  | cons a l ih =>
    intro l0 h0 hl y hy
    exact ih (add1 l0 a) (fun z hz => by
      rcases mem_add1 hz with q | q
      · exact h0 z q
      · subst q; exact hl _ (by simp)) (fun z hz => hl z (by simp [hz])) y hy
theorem mem_fold2 {P : Int → Prop} (l : List (Int × Int)) : ∀ l0 : List Int, (∀ y ∈ l0, P y) → (∀ p ∈ l, P p.1 ∧ P p.2) → ∀ y ∈ l.foldl (fun l p => add1 (add1 l p.1) p.2) l0, P y := by
  induction l with
  | nil => intro l0 h0 _ y hy; exact h0 y hy
  | cons a l ih =>
    intro l0 h0 hl y hy
    exact ih (add1 (add1 l0 a.1) a.2) (fun z hz => by
      rcases mem_add1 hz with q | q
      · rcases mem_add1 q with q | q
        · exact h0 z q
        · subst q; exact (hl a (by simp)).1
      · subst q; exact (hl a (by simp)).2) (fun p hp => hl p (by simp [hp])) y hy
theorem listOf_all {R : PR} {P : Int → Prop} (hp : P R.proc) (hf : P R.frame) (hr : ∀ y ∈ R.ready, P y) (hw : ∀ p ∈ R.wait, P p.1 ∧ P p.2) (hd : ∀ y ∈ R.due, P y) : ∀ y ∈ listOf R, P y := by
  unfold listOf
  refine mem_fold _ _ (mem_fold2 _ _ (mem_fold _ _ (fun y hy => ?_) hr) hw) hd
  rcases mem_add1 hy with q | q
  · rcases mem_add1 q with q | q
    · cases q
    · subst q; exact hp
  · subst q; exact hf
theorem there_in {W : PW} {y : Int} (h : thereB W y = true) : 0 ≤ y ∧ y < W.L.length := by
  unfold thereB liveB at h
  simp only [Bool.and_eq_true, decide_eq_true_eq] at h
  exact h.2.1
theorem thereL_all {W : PW} {l : List Int} (h : thereL W l = true) : ∀ y ∈ l, thereB W y = true := by
  intro y hy
  unfold thereL at h
  obtain ⟨q, hq, hqv⟩ := List.mem_iff_getElem.1 hy
  have f := (allTo_iff _ _).1 h q hq
  rw [List.getD_eq_getElem?_getD, List.getElem?_eq_getElem hq, hqv] at f
  exact f
theorem check_regs {W : PW} (h : checkB W = true) : regsB W = true := by
  unfold checkB at h
  simp only [Bool.and_eq_true] at h
  exact h.2.2.2.2
theorem roots_in {W : PW} (h : checkB W = true) : ∀ r ∈ rootsOf W.R, 0 ≤ r ∧ r < W.L.length := by
  have hl := check_len h
  have hg := check_regs h
  unfold regsB at hg
  simp only [Bool.and_eq_true, Bool.or_eq_true, decide_eq_true_eq] at hg
  obtain ⟨g1, g2, g3, g4, _, g6, _⟩ := hg
  have A : ∀ y ∈ listOf W.R, y = 0 ∨ thereB W y = true := listOf_all (P := fun y => y = 0 ∨ thereB W y = true) g1 g2 (fun y hy => .inr (thereL_all g3 y hy)) (fun p hp => by
    unfold waitB at g6
    obtain ⟨q, hq, hqv⟩ := List.mem_iff_getElem.1 hp
    have f := (allTo_iff _ _).1 g6 q hq
    unfold wAt at f
    rw [List.getD_eq_getElem?_getD, List.getElem?_eq_getElem hq, hqv] at f
    rw [Bool.and_eq_true] at f
    exact ⟨.inr f.1, .inr f.2⟩) (fun y hy => .inr (thereL_all g4 y hy))
  intro r hr
  unfold rootsOf at hr
  rcases List.mem_append.1 hr with q | q
  · unfold upTo at q
    obtain ⟨k, hk, rfl⟩ := List.mem_map.1 q
    have := List.mem_range.1 hk
    omega
  · obtain ⟨q1, q2⟩ := List.mem_filter.1 q
    have q2 := of_decide_eq_true q2
    rcases A r q1 with e | e
    · omega
    · exact there_in e
theorem regs_lens {W : PW} (h : checkB W = true) : 2 + W.R.ready.length + 2 * W.R.wait.length + W.R.due.length ≤ 4000 := by
  have hg := check_regs h
  unfold regsB at hg
  simp only [Bool.and_eq_true, Bool.or_eq_true, decide_eq_true_eq] at hg
  obtain ⟨_, _, _, _, _, _, g7, _⟩ := hg
  omega
theorem listOf_len (R : PR) : (listOf R).length ≤ 2 + R.ready.length + 2 * R.wait.length + R.due.length := by
  unfold listOf
  have e1 := fold_len R.due (R.wait.foldl (fun l p => add1 (add1 l p.1) p.2) (R.ready.foldl add1 (add1 (add1 [] R.proc) R.frame)))
  have e2 := fold_len2 R.wait (R.ready.foldl add1 (add1 (add1 [] R.proc) R.frame))
  have e3 := fold_len R.ready (add1 (add1 [] R.proc) R.frame)
  have e4 := add1_len [] R.proc
  have e5 := add1_len (add1 [] R.proc) R.frame
  simp only [List.length_nil] at e4
  omega
theorem roots_len {W : PW} (h : checkB W = true) : (rootsOf W.R).length ≤ 5000 := by
  have a := regs_lens h
  have b := listOf_len W.R
  have c := List.length_filter_le (fun x : Int => decide (23 ≤ x)) (listOf W.R)
  unfold rootsOf
  rw [List.length_append, upTo_len]
  omega
end Go.Proofs.Ytadhkmplhgcgkaa.World
