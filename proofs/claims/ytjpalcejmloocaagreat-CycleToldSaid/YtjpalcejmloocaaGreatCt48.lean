/-
  ObjCall, as one text (a claim has at most 60 files).
-/
import Derived.Test.YtjpalcejmloocaaGreatCt43
import Derived.Test.YtjpalcejmloocaaGreatCt29
namespace Go.Proofs.YtjpalcejmloocaaGreat.World
open Go.RowKit Go.Proofs.YtjpalcejmloocaaGreat.Plain
set_option linter.unusedVariables false
def blkA (n : Nat) : Obj := .cells (Array.replicate n (.int .i64 0)) 3
def blkB (vL vD : Value) (ib n : Nat) : Obj := .cells #[vL, vD, .slice (some ⟨ib, 0, none⟩) n n] 72
theorem own_rep {w : World} {g n : Nat} {e : TypeId} {u : Value} (h : Blk w g e (Array.replicate n u)) (hn : n ≤ maxLen) : Own w 0 e (.slice (some ⟨g, 0, none⟩) n n) n 1 (fun _ _ => u) := by
  refine ⟨flat_len _ _ _, .inr ⟨g, n, _, rfl, Nat.zero_le _, h, Nat.le_refl _, hn, by simp, ?_⟩⟩
  refine List.ext_getElem? fun q => ?_
  rw [Nat.mul_one]
  by_cases hq : q < n
  · rw [List.getElem?_take_of_lt hq, Array.getElem?_toList, Array.getElem?_replicate, if_pos hq]
    have := flat_at n 1 (fun _ _ => u) q 0 hq (by omega)
    rw [Nat.mul_one, Nat.add_zero] at this
    exact this.symm
  · rw [List.getElem?_take_eq_none (by omega), List.getElem?_eq_none (by rw [flat_len]; omega)]
theorem prev_ge (W : PW) (h : allTo (oneB W) W.L.length = true) : ∀ i, i ≤ W.L.length → (i : Int) ≤ prevH W.L i := by
  intro i
  induction i with
  | zero => intro _; exact Int.le_refl _
  | succ i ih =>
    intro hi
    have o := (allTo_iff _ _).1 h i (by omega)
    unfold oneB at o
    rw [Bool.and_eq_true] at o
    have := of_decide_eq_true o.1
    have := ih (by omega)
    show _ ≤ (tAt W.L i).hash
    omega
theorem shape_of {n : Nat} {t : PT} (h : shapeB n t = true) : (t.fmt = 1 ∨ t.fmt = 2 ∨ t.fmt = 3) ∧ (t.fmt ≠ 3 → t.B.size = 0) ∧ (t.fmt = 3 → t.F = []) ∧ t.F.length ≤ 60 ∧ t.B.size ≤ 200 ∧ ∀ j, j < t.F.length → fldB n (vAt t.F j) = true := by
  unfold shapeB at h
  by_cases h3 : t.fmt = 3
  · rw [if_pos h3, Bool.and_eq_true] at h
    have h1 := of_decide_eq_true h.1
    have h2 := of_decide_eq_true h.2
    exact ⟨.inr (.inr h3), fun e => absurd h3 e, fun _ => List.eq_nil_of_length_eq_zero h1, by omega, h2, fun j hj => by omega⟩
  · rw [if_neg h3] at h
    by_cases h1 : t.fmt = 1 ∨ t.fmt = 2
    · rw [if_pos h1, Bool.and_eq_true, Bool.and_eq_true] at h
      have g1 := of_decide_eq_true h.1
      have g2 := of_decide_eq_true h.2.1
      exact ⟨h1.imp id .inl, fun _ => g1, fun e => absurd e h3, g2, by omega, (allTo_iff _ _).1 h.2.2⟩
    · rw [if_neg h1] at h; cases h
theorem newS_wf {W : PW} (hc : checkB W = true) (most : Int) : (newS W most).Wf := by
  unfold checkB at hc
  simp only [Bool.and_eq_true, decide_eq_true_eq] at hc
  obtain ⟨h1, _, h3, _, _⟩ := hc
  unfold thingsB at h3
  simp only [Bool.and_eq_true, decide_eq_true_eq] at h3
  obtain ⟨g1, g2, g3⟩ := h3
  have P := prev_ge W g1
  have O : ∀ i, i < W.L.length → prevH W.L i < (tAt W.L i).hash ∧ (tAt W.L i).hash ≤ 3000 ∧ thingB W i = true := fun i hi => by
    have o := (allTo_iff _ _).1 g1 i hi
    unfold oneB at o
    simp only [Bool.and_eq_true, decide_eq_true_eq] at o
    exact o
  have TB : ∀ i, i < W.L.length → (0 ≤ (tAt W.L i).cls ∧ (tAt W.L i).cls < W.L.length) ∧ shapeB W.L.length (tAt W.L i) = true := fun i hi => by
    have t := (O i hi).2.2
    unfold thingB at t
    rw [Bool.and_eq_true, Bool.and_eq_true] at t
    exact ⟨of_decide_eq_true t.1, t.2.1⟩
  have SH := fun i hi => shape_of (TB i hi).2
  refine ⟨by show (List.replicate _ _).length = _; simp [newS], by show (List.replicate _ _).length = _; simp [newS], h1.1, ?_, g3, fun i hi => (SH i hi).1, fun i hi => (SH i hi).2.1, fun i hi => (SH i hi).2.2.1, fun i hi => (SH i hi).2.2.2.1, fun i hi => (SH i hi).2.2.2.2.1, fun i hi => (TB i hi).1, fun i hi => ?_, fun i j hi hj => (SH i hi).2.2.2.2.2 j hj⟩
  · have := P W.L.length (Nat.le_refl _)
    show (W.L.length : Int) ≤ W.last
    omega
  · have := P i (Nat.le_of_lt hi)
    have := O i hi
    show 1 ≤ (tAt W.L i).hash ∧ (tAt W.L i).hash ≤ 3000
    omega
theorem objcall {w w0 w3 : World} {b1 db : Nat} {W : PW} {x' : WV} (hc : checkB W = true) (most : Int) (N : NewW w3 b1 W x') (hb : w.heap.size ≤ b1) (X3 : Ext w w3) (x30 : Ext w3 w0) (hBD0 : Blk w0 db 4 (Array.replicate W.L.length (.bool false))) (hdb : w.heap.size ≤ db) :
    Calls Tryz.prog 22 #[.iface 70 (.pointer (some ⟨w0.heap.size + 1, 0, none⟩)), .agg (cellsR W.R x'.ready x'.wait x'.due x'.snaps), .int .i64 W.last, .int .i64 most] ((w0.alloc (blkA W.L.length)).alloc (blkB x'.L (.slice (some ⟨db, 0, none⟩) W.L.length W.L.length) w0.heap.size W.L.length)) fun e w' => ∃ m F, e = .returned (.pointer (some ⟨m, 0, none⟩)) ∧ M w' F m (newS W most) ∧ (∀ k, F k → w.heap.size ≤ k) ∧ Ext w w' := by
  have b0 : W.L.length ≤ 3000 ∧ W.R.ready.length ≤ 3000 ∧ W.R.wait.length ≤ 3000 ∧ W.R.due.length ≤ 3000 ∧ W.R.snaps.length ≤ 3000 := by
    unfold checkB at hc
    simp only [Bool.and_eq_true, decide_eq_true_eq] at hc
    obtain ⟨h1, _, _, _, h5⟩ := hc
    unfold regsB at h5
    simp only [Bool.and_eq_true, decide_eq_true_eq] at h5
    obtain ⟨_, _, _, _, _, _, h6, _⟩ := h5
    omega
  obtain ⟨n, hn⟩ : ∃ n, n = W.L.length := ⟨_, rfl⟩
  rw [← hn] at hBD0 ⊢
  obtain ⟨ib, hib⟩ : ∃ ib, ib = w0.heap.size := ⟨_, rfl⟩
  rw [← hib]
  have z1 : (w0.alloc (blkA n)).heap.size = ib + 1 := by rw [hib]; exact Array.size_push ..
  obtain ⟨w5, hw5⟩ : ∃ w5, w5 = w0.alloc (blkA n) := ⟨_, rfl⟩
  have hBA5 : Blk w5 ib 3 (Array.replicate n (.int .i64 0)) := by rw [hw5, hib]; exact Blk.new w0 _ _
  have x05 : Ext w0 w5 := by rw [hw5]; exact (Ext.refl w0).alloc _
  rw [← hw5] at z1 ⊢
  obtain ⟨w6, hw6⟩ : ∃ w6, w6 = w5.alloc (blkB x'.L (.slice (some ⟨db, 0, none⟩) n n) ib n) := ⟨_, rfl⟩
  have x56 : Ext w5 w6 := by rw [hw6]; exact (Ext.refl w5).alloc _
  have z2 : w6.heap.size = ib + 2 := by
    have : w6.heap.size = w5.heap.size + 1 := by rw [hw6]; exact Array.size_push ..
    omega
  have hBB : Blk w6 (ib + 1) 72 #[x'.L, .slice (some ⟨db, 0, none⟩) n n, .slice (some ⟨ib, 0, none⟩) n n] := by rw [hw6, ← z1]; exact Blk.new w5 _ _
  rw [← hw6]
  have hBA := hBA5.ext x56
  have hBD := hBD0.ext (x05.trans x56)
  have x36 := x30.trans (x05.trans x56)
  clear hw5 hw6 hBA5 hBD0
  have w0le := x30.below.size
  have w3le := X3.below.size
  have inF : ∀ {F : Nat → Prop}, (∀ k, w.heap.size ≤ k → k < ib + 2 → F k) → ∀ {v : Value} {k sz : Nat} {t : TypeId} {c : Nat → Nat → Value}, Own w3 b1 t v k sz c → InF F v := by
    intro F hF v k sz t c ho g hg
    obtain ⟨h1, cs, h2⟩ := ho.block hg
    have := h2.lt
    exact hF g (by omega) (by omega)
  have hdbl := hBD.lt
  have hib2 : w.heap.size ≤ ib := by omega
  have hdl : (newS W most).dead.length = n := by rw [hn]; simp [newS]
  have hcl : (newS W most).col.length = n := by rw [hn]; simp [newS]
  have hnm : n ≤ maxLen := by unfold maxLen; omega
  have hts : ∀ F : Nat → Prop, (∀ k, w.heap.size ≤ k → k < w6.heap.size → F k) → TsAt w6 F (newS W most) ⟨ib + 1, 0, x'.L, .slice (some ⟨db, 0, none⟩) n n, .slice (some ⟨ib, 0, none⟩) n n, x'.fs, .slice none 0 0, .slice none 0 0, .slice none 0 0, .slice none 0 0, .slice none 0 0⟩ := by
    intro F hF
    rw [z2] at hF
    refine ⟨hBB, hF (ib + 1) (by omega) (by omega), (N.L.ext x36).base (by omega), inF hF N.L, fun i hi => ((N.fs i hi).ext x36).base (by omega), fun i hi => inF hF (N.fs i hi), fun i j hi hj => N.ap i j hi hj, ?_, ?_, ?_, ?_⟩
    · rw [hdl]
      refine (own_rep hBD hnm).congr fun i j hi hj => ?_
      show _ = Value.bool ((List.replicate W.L.length false).getD i false)
      rw [List.getD_eq_getElem?_getD, List.getElem?_replicate]; split <;> rfl
    · intro g hg
      have hg : some db = some g := hg
      injection hg with hg
      exact hF g (by omega) (by omega)
    · rw [hcl]
      refine (own_rep hBA hnm).congr fun i j hi hj => ?_
      show _ = Value.int .i64 ((List.replicate W.L.length 0).getD i 0)
      rw [List.getD_eq_getElem?_getD, List.getElem?_replicate]; split <;> rfl
    · intro g hg
      have hg : some ib = some g := hg
      injection hg with hg
      exact hF g (by omega) (by omega)
  refine (memnew (X := ⟨ib + 1, 0, x'.L, .slice (some ⟨db, 0, none⟩) n n, .slice (some ⟨ib, 0, none⟩) n n, x'.fs, .slice none 0 0, .slice none 0 0, .slice none 0 0, .slice none 0 0, .slice none 0 0⟩) (b := w.heap.size) (W := W) (by omega) hts (newS_wf hc most) (N.R.re.ext x36).row (N.R.wa.ext x36).row (N.R.du.ext x36).row (N.R.sn.ext x36).row (by omega) (by omega) (by omega) (by omega)).mono ?_
  rintro e w' ⟨mm, F, rfl, M1, M2, M3⟩
  exact ⟨mm, F, rfl, M1, M2, (X3.trans x36).trans M3⟩
end Go.Proofs.YtjpalcejmloocaaGreat.World
