/-
  Frames, plain: what a new frame is.
-/
import Derived.Test.YtnhijjcplnomgaaGreatFramePlain3
namespace Go.Proofs.YtnhijjcplnomgaaGreat.World
open Go.RowKit Go.Proofs.YtnhijjcplnomgaaGreat.Plain
set_option linter.unusedVariables false
namespace MS
section
variable {S S' : MS}
theorem Sim.plainB (h : Sim S S') (u : PV) (n : Int) : S'.plainB u n = S.plainB u n := by unfold MS.plainB; rw [h.fmt, h.size]
theorem Sim.isRoom (h : Sim S S') (u : PV) : S'.isRoom u = S.isRoom u := by unfold MS.isRoom; rw [h.plainB, h.size]
theorem Sim.isMethod (h : Sim S S') {k : Int} (g : ∀ q, S'.get k q = S.get k q) : S'.isMethod k = S.isMethod k := by
  unfold MS.isMethod MS.numB; rw [h.plainB, g, g, g, g, h.fmt]
theorem Sim.isBlock (h : Sim S S') {k : Int} (g : ∀ q, S'.get k q = S.get k q) : S'.isBlock k = S.isBlock k := by
  unfold MS.isBlock MS.numB; rw [h.plainB, g, g, g, g, h.isRoom]
def frameF (sender pc temps meth : Int) (self : PV) (block : Int) : Nat → PV := fun k => if k = 5 then objV block else if k = 4 then self else if k = 3 then objV meth else if k = 2 then num temps else if k = 1 then num pc else if k = 0 then objV sender else nilV
structure NewFr (S S' : MS) (id : Int) (f : Nat → PV) : Prop where
  own : Own0 S' id f
  fr : Fr S' id
  sim : Sim S.frame0 S'
  old : ∀ k q, k ≠ id → S'.get k q = S.get k q
  R : S'.R = S.R
theorem Std.newFr (h : S.Std) (hl : S.last < 3000) {sender pc temps meth block : Int} {self : PV} (hs : S.has sender = true) (hs2 : sender = 0 ∨ S.isRoom (objV sender) = true) (hp : 0 ≤ pc ∧ pc ≤ 5000) (ht : 0 ≤ temps ∧ temps ≤ 8) (hm : S.isMethod meth = true) (hse : S.may self = true)
    (hb : block = 0 ∨ S.isBlock block = true) : NewFr S (S.frameN sender pc temps meth self block) S.L.length (frameF sender pc temps meth self block) := by
  obtain ⟨_, _, _, hs0⟩ := h.frame0 hl
  have o0 := h.own0 hl
  have hbh : S.has block = true := by
    rcases hb with e | e
    · rw [e]; exact h.has0
    · exact isBlock_has e
  have mA : ∀ v, S.may v = true → S.frame0.may v = true := fun v hv => may_old h.wf hv
  obtain ⟨_, o1, m1, r1, _, g1⟩ := o0.set (l := 0) (by omega) (v := objV sender) (mA _ hs) (by omega)
  obtain ⟨_, o2, m2, r2, _, g2⟩ := o1.set (l := 1) (by omega) (v := num pc) (fits_small (n := pc) (by omega)) (by omega)
  obtain ⟨_, o3, m3, r3, _, g3⟩ := o2.set (l := 2) (by omega) (v := num temps) (fits_small (n := temps) (by omega)) (by omega)
  have n3 := (m1.trans m2).trans m3
  obtain ⟨_, o4, m4, r4, _, g4⟩ := o3.set (l := 3) (by omega) (v := objV meth) (by rw [n3.may]; exact mA _ (isMethod_has hm)) (fun _ => rfl)
  obtain ⟨_, o5, m5, r5, _, g5⟩ := o4.set (l := 4) (by omega) (v := self) (by rw [(n3.trans m4).may]; exact mA _ hse) (by omega)
  obtain ⟨_, o6, m6, r6, _, g6⟩ := o5.set (l := 5) (by omega) (v := objV block) (by rw [((n3.trans m4).trans m5).may]; exact mA _ hbh) (by omega)
  have n6 := ((n3.trans m4).trans m5).trans m6
  have old : ∀ k q, k ≠ (S.L.length : Int) → (S.frameN sender pc temps meth self block).get k q = S.frame0.get k q := fun k q hk =>
    (g6 k q hk).trans ((g5 k q hk).trans ((g4 k q hk).trans ((g3 k q hk).trans ((g2 k q hk).trans (g1 k q hk)))))
  have old0 : ∀ k q, k ≠ (S.L.length : Int) → S.frame0.get k q = S.get k q := fun k q hk => get_add h.wf hk q
  have o : Own0 (S.frameN sender pc temps meth self block) S.L.length (frameF sender pc temps meth self block) := o6
  have n : Sim S.frame0 (S.frameN sender pc temps meth self block) := n6
  have hmh := has_lt (isMethod_has hm)
  have hbh2 := has_lt hbh
  have lo := h.wf.lo
  have q0 := o.get 0 (by omega)
  have q1 := o.get 1 (by omega)
  have q2 := o.get 2 (by omega)
  have q3 := o.get 3 (by omega)
  have q5 := o.get 5 (by omega)
  have q0 : (S.frameN sender pc temps meth self block).get S.L.length 0 = objV sender := q0
  have q1 : (S.frameN sender pc temps meth self block).get S.L.length 1 = num pc := q1
  have q2 : (S.frameN sender pc temps meth self block).get S.L.length 2 = num temps := q2
  have q3 : (S.frameN sender pc temps meth self block).get S.L.length 3 = objV meth := q3
  have q5 : (S.frameN sender pc temps meth self block).get S.L.length 5 = objV block := q5
  refine ⟨o, ⟨o.std.wf, ?_, ?_, ?_⟩, n, fun k q hk => (old k q hk).trans (old0 k q hk), r6.trans (r5.trans (r4.trans (r3.trans (r2.trans r1))))⟩
  · unfold MS.isFrame MS.numB
    rw [q0, q1, q2, q3, q5]
    have a1 : decide ((S.L.length : Int) = 0) = false := decide_eq_false (by omega)
    have a2 : (S.frameN sender pc temps meth self block).isRoom ⟨true, S.L.length⟩ = true := by
      unfold MS.isRoom MS.plainB
      have e1 : (S.frameN sender pc temps meth self block).fmt S.L.length = 1 := o.fmt
      have e2 : (S.frameN sender pc temps meth self block).size S.L.length = 22 := o.size
      show (true && (decide ((S.frameN sender pc temps meth self block).fmt S.L.length = 1) && decide (22 ≤ (S.frameN sender pc temps meth self block).size S.L.length)) && decide ((S.frameN sender pc temps meth self block).size S.L.length = 22)) = true
      rw [e1, e2]; rfl
    have a3 : (isNil (objV sender) || (S.frameN sender pc temps meth self block).isRoom (objV sender)) = true := by
      rcases hs2 with e | e
      · rw [e]; rfl
      · rw [n.isRoom, show S.frame0.isRoom (objV sender) = true from isRoom_add h.wf e, Bool.or_true]
    have a4 : (S.frameN sender pc temps meth self block).isMethod meth = true := by
      rw [n.isMethod (fun q => old _ q (by omega))]
      exact isMethod_add h.wf hm
    have a5 : (isNil (objV block) || ((objV block).obj && (S.frameN sender pc temps meth self block).isBlock (objV block).n)) = true := by
      rcases hb with e | e
      · rw [e]; rfl
      · show (_ || (true && (S.frameN sender pc temps meth self block).isBlock block)) = true
        rw [n.isBlock (fun q => old _ q (by omega)), show S.frame0.isBlock block = true from isBlock_add h.wf e, Bool.and_true, Bool.or_true]
    have a6 : decide (0 ≤ (num temps).n ∧ (num temps).n ≤ 16) = true := decide_eq_true (by show 0 ≤ temps ∧ temps ≤ 16; omega)
    rw [a1, a2, a3, a6]
    show (true && (true && (true && (true && (true && (true && ((S.frameN sender pc temps meth self block).isMethod meth && _))))))) = true
    rw [a4, a5]; rfl
  · rw [q3]; show meth ≠ _; omega
  · rw [q5]; show block ≠ _; omega
end
end MS
end Go.Proofs.YtnhijjcplnomgaaGreat.World
