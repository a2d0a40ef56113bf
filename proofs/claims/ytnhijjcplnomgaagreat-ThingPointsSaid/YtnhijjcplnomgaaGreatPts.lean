/-
  Points, plain: a thing that is a point; a point more.
-/
import Derived.Test.YtnhijjcplnomgaaGreatThingNews0
import Derived.Test.YtnhijjcplnomgaaGreatFramePlain3
namespace Go.Proofs.YtnhijjcplnomgaaGreat.World
open Go.RowKit Go.Proofs.YtnhijjcplnomgaaGreat.Plain
set_option linter.unusedVariables false
namespace MS
structure Pt (S : MS) (i : Int) (a b : PV) : Prop where
  cls : S.cls i = 18
  fmt : S.fmt i = 1
  size : S.size i = 2
  has : S.has i = true
  g0 : S.get i 0 = a
  g1 : S.get i 1 = b
section
variable {S : MS} {i k : Int} {a b v : PV} {x : PT}
theorem Pt.add (h : Pt S i a b) (w : S.Wf) : Pt (S.add x) i a b :=
  ⟨(cls_old w h.has).trans h.cls, (fmt_old w h.has).trans h.fmt, (size_old w h.has).trans h.size, has_add_old w h.has, (get_old w h.has 0).trans h.g0, (get_old w h.has 1).trans h.g1⟩
theorem Pt.isField (h : Pt S i a b) {j : Int} (hj : 0 ≤ j ∧ j < 2) : S.isField i j = true := by
  unfold MS.isField
  rw [h.has, h.fmt, h.size, decide_eq_true hj]; rfl
theorem Pt.sim {S' : MS} (h : Pt S i a b) (s : Sim S S') {c d : PV} (g0 : S'.get i 0 = c) (g1 : S'.get i 1 = d) : Pt S' i c d :=
  ⟨(s.cls i).trans h.cls, (s.fmt i).trans h.fmt, (s.size i).trans h.size, (s.has i).trans h.has, g0, g1⟩
theorem Pt.far (h : Pt S i a b) (w : S.Wf) {j : Int} (hf : S.isField k j = true) (hk : i ≠ k) : Pt (S.put k j v) i a b :=
  h.sim (sim_put w hf) (by rw [get_put w hf, if_neg (fun e => hk e.1)]; exact h.g0) (by rw [get_put w hf, if_neg (fun e => hk e.1)]; exact h.g1)
theorem Pt.put0 (h : Pt S i a b) (w : S.Wf) : Pt (S.put i 0 v) i v b :=
  h.sim (sim_put w (h.isField (by omega))) (by rw [get_put w (h.isField (by omega)), if_pos ⟨rfl, rfl⟩]) (by rw [get_put w (h.isField (by omega)), if_neg (by omega)]; exact h.g1)
theorem Pt.put1 (h : Pt S i a b) (w : S.Wf) : Pt (S.put i 1 v) i a v :=
  h.sim (sim_put w (h.isField (by omega))) (by rw [get_put w (h.isField (by omega)), if_neg (by omega)]; exact h.g0) (by rw [get_put w (h.isField (by omega)), if_pos ⟨rfl, rfl⟩])
theorem Pt.new (w : S.Wf) (h : Int) : Pt (S.add (newT 18 1 2 h)) S.L.length nilV nilV := by
  have hh : (S.add (newT 18 1 2 h)).has S.L.length = true := has_add_new w
  have ht : (S.add (newT 18 1 2 h)).t S.L.length = newT 18 1 2 h := t_new
  refine ⟨?_, ?_, ?_, hh, ?_, ?_⟩
  · unfold MS.cls; rw [hh, if_pos rfl, ht]; rfl
  · unfold MS.fmt; rw [hh, if_pos rfl, ht]; rfl
  · unfold MS.size; rw [hh, if_pos rfl, ht]; rfl
  · exact get_new (x := newT 18 1 2 h) w 0 (show (1 : Int) ≠ 3 by decide) (by show (0 : Int) ≤ 0 ∧ (0 : Int) < 2; omega) rfl
  · exact get_new (x := newT 18 1 2 h) w 1 (show (1 : Int) ≠ 3 by decide) (by show (0 : Int) ≤ 1 ∧ (1 : Int) < 2; omega) rfl
end
/-- a point more: made, its two parts set -/
structure Step (S : MS) (id x y : Int) (S3 : MS) : Prop where
  p0 : S.phase ≠ 1
  n : S.madeN 18 = 2
  f : S.madeF 18 = 1
  ok : S.makeOK 18 0 = true
  nid : S.makeId 18 0 = id
  cl : S.may ⟨true, 18⟩ = true
  p1 : (S.make 18 0).phase ≠ 1
  o1 : (S.make 18 0).setOK id 0 (num x) = true
  p2 : ((S.make 18 0).set id 0 (num x)).phase ≠ 1
  o2 : ((S.make 18 0).set id 0 (num x)).setOK id 1 (num y) = true
  e : S3 = ((S.make 18 0).set id 0 (num x)).set id 1 (num y)
structure Pts (S : MS) (n : Nat) (f : Nat → Int × Int) : Prop where
  std : S.Std
  len : S.L.length = 23 + n
  last : S.last = 23 + n
  p : ∀ q : Nat, q < n → Pt S (23 + q : Nat) (num (f q).1) (num (f q).2)
theorem Pts.step {S : MS} {n : Nat} {f : Nat → Int × Int} (h : Pts S n f) (hn : n < 100) (x y : Int) (hx : fitsB x = true) (hy : fitsB y = true) :
    ∃ S3, Step S (23 + n : Nat) x y S3 ∧ Pts S3 (n + 1) (fun q => if q = n then (x, y) else f q) := by
  obtain ⟨c, nn, ff⟩ := h.std.cls 18 (by omega) (by omega)
  have c : S.isClass 18 = true := c
  have nn : S.madeN 18 = 2 := nn
  have ff : S.madeF 18 = 1 := ff
  have ok : S.makeOK 18 0 = true := by
    unfold makeOK
    rw [ff, nn, if_neg (by decide), decide_eq_true (show S.last < 3000 by have := h.last; omega), c]; rfl
  have hz : S.makeSz 18 0 = 2 := by unfold makeSz; rw [ff, nn]; rfl
  have e : S.make 18 0 = S.add (newT 18 1 2 (S.last + 1)) := by unfold make; rw [if_pos ok, ff, hz]; rfl
  have hw := make_wf h.std.wf ok
  rw [ff, hz] at hw
  have s1 : (S.make 18 0).Std := by rw [e]; exact h.std.add hw
  have id : S.makeId 18 0 = ((23 + n : Nat) : Int) := by unfold makeId; rw [if_pos ok, h.len]
  have P1 : Pt (S.make 18 0) ((23 + n : Nat) : Int) nilV nilV := by rw [e, ← h.len]; exact Pt.new h.std.wf _
  have m1 : (S.make 18 0).may (num x) = true := hx
  have f1 : (S.make 18 0).isField ((23 + n : Nat) : Int) 0 = true := P1.isField (by omega)
  have o1 := setOK_of f1 m1 (.inl (by omega))
  have e1 := set_put o1
  have s2 : ((S.make 18 0).set ((23 + n : Nat) : Int) 0 (num x)).Std := by rw [e1]; exact s1.put (by omega) f1 m1
  have P2 : Pt ((S.make 18 0).set ((23 + n : Nat) : Int) 0 (num x)) ((23 + n : Nat) : Int) (num x) nilV := by rw [e1]; exact P1.put0 s1.wf
  have m2 : ((S.make 18 0).set ((23 + n : Nat) : Int) 0 (num x)).may (num y) = true := hy
  have f2 : ((S.make 18 0).set ((23 + n : Nat) : Int) 0 (num x)).isField ((23 + n : Nat) : Int) 1 = true := P2.isField (by omega)
  have o2 := setOK_of f2 m2 (.inl (by omega))
  have e2 := set_put o2
  refine ⟨_, ⟨by rw [h.std.ph]; decide, nn, ff, ok, id, (h.std.t 18 (by omega)).2, by rw [s1.ph]; decide, o1, by rw [s2.ph]; decide, o2, rfl⟩, ?_, ?_, ?_, fun q hq => ?_⟩
  · rw [e2]; exact s2.put (by omega) f2 m2
  · rw [e2, put_len, e1, put_len, e, add_len, h.len]; omega
  · rw [e2]
    show ((S.make 18 0).set _ _ _).last = _
    rw [e1]
    show (S.make 18 0).last = _
    rw [e]
    show S.last + 1 = _
    rw [h.last]; omega
  · by_cases hqn : q = n
    · subst hqn
      simp only [if_true]
      rw [e2]; exact P2.put1 s2.wf
    · simp only [if_neg hqn]
      rw [e2]
      refine Pt.far ?_ s2.wf f2 (by omega)
      rw [e1]
      refine Pt.far ?_ s1.wf f1 (by omega)
      rw [e]
      exact (h.p q (by omega)).add h.std.wf
theorem pts0 (f : Nat → Int × Int) : Pts T0 0 f := ⟨std_new first_check first_at 5, by decide +kernel, by decide +kernel, fun q hq => by omega⟩
end MS
end Go.Proofs.YtnhijjcplnomgaaGreat.World
