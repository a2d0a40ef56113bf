/-
  Frames, plain: a push, a pop, a slot turned.
-/
import Derived.Test.YtnhijjcplnomgaaGreatFramePlain
namespace Go.Proofs.YtnhijjcplnomgaaGreat.World
open Go.RowKit Go.Proofs.YtnhijjcplnomgaaGreat.Plain
set_option linter.unusedVariables false
namespace MS
/-- fields alone have turned -/
structure Sim (S S' : MS) : Prop where
  has : ∀ k, S'.has k = S.has k
  fmt : ∀ k, S'.fmt k = S.fmt k
  size : ∀ k, S'.size k = S.size k
  cls : ∀ k, S'.cls k = S.cls k
  hash : ∀ k, S'.hash k = S.hash k
  len : S'.L.length = S.L.length
  last : S'.last = S.last
  phase : S'.phase = S.phase
  text : ∀ k, (S'.t k).B = (S.t k).B
theorem Sim.refl (S : MS) : Sim S S := ⟨fun _ => rfl, fun _ => rfl, fun _ => rfl, fun _ => rfl, fun _ => rfl, rfl, rfl, rfl, fun _ => rfl⟩
theorem Sim.trans {S S' S2 : MS} (h : Sim S S') (k : Sim S' S2) : Sim S S2 :=
  ⟨fun i => (k.has i).trans (h.has i), fun i => (k.fmt i).trans (h.fmt i), fun i => (k.size i).trans (h.size i), fun i => (k.cls i).trans (h.cls i), fun i => (k.hash i).trans (h.hash i), k.len.trans h.len, k.last.trans h.last, k.phase.trans h.phase, fun i => (k.text i).trans (h.text i)⟩
theorem Sim.may {S S' : MS} (h : Sim S S') (v : PV) : S'.may v = S.may v := by unfold MS.may; rw [h.has]
theorem Sim.isField {S S' : MS} (h : Sim S S') (i j : Int) : S'.isField i j = S.isField i j := by unfold MS.isField; rw [h.has, h.fmt, h.size]
section
variable {S : MS} {i j : Int} {v : PV} {x : PT}
theorem sim_put (w : S.Wf) (h : S.isField i j = true) : Sim S (S.put i j v) := by
  obtain ⟨h1, h2, _⟩ := field_lt w h
  have hi : 0 ≤ i ∧ i < S.L.length := ⟨h1, h2⟩
  exact ⟨has_put, fmt_put hi, size_put hi, cls_put hi, hash_put hi, put_len, rfl, rfl, t_put_B hi⟩
/-- a frame whose method, and whose block, is another thing -/
structure Fr (S : MS) (id : Int) : Prop where
  wf : S.Wf
  is : S.isFrame id = true
  me : (S.get id 3).n ≠ id
  bl : (S.get id 5).n ≠ id
theorem Fr.field {id : Int} (h : Fr S id) {l : Int} (hl : 0 ≤ l ∧ l < 22) : S.isField id l = true := isFrame_field h.is hl
/-- a slot of it turned -/
theorem Fr.slot {id : Int} (h : Fr S id) (hj : 6 ≤ j ∧ j < 22) (hv : S.may v = true) : S.setOK id j v = true ∧ S.set id j v = S.put id j v ∧ Fr (S.put id j v) id ∧ Sim S (S.put id j v) ∧ ∀ k l, (S.put id j v).get k l = if k = id ∧ l = j then v else S.get k l := by
  have hf := h.field (l := j) (by omega)
  have ok := setOK_of hf hv (.inl (by omega))
  have G := get_put (v := v) h.wf hf
  refine ⟨ok, set_put ok, ⟨put_wf h.wf hf hv, isFrame_put h.wf hf h.is (.inr (by omega)) (.inr (by omega)) (.inr (.inl hj.1)), ?_, ?_⟩, sim_put h.wf hf, G⟩
  · rw [G, if_neg (by omega)]; exact h.me
  · rw [G, if_neg (by omega)]; exact h.bl
theorem fits_small {n : Int} (h : -1000 ≤ n ∧ n ≤ 5000) : fitsB n = true := fits_yes (by omega) (by omega)
/-- its stack's height turned -/
theorem Fr.high {id n : Int} (h : Fr S id) (hn : 0 ≤ n ∧ n ≤ 16) : S.setOK id 2 (num n) = true ∧ S.set id 2 (num n) = S.put id 2 (num n) ∧ Fr (S.put id 2 (num n)) id ∧ Sim S (S.put id 2 (num n)) ∧ ∀ k l, (S.put id 2 (num n)).get k l = if k = id ∧ l = 2 then num n else S.get k l := by
  have hf := h.field (l := 2) (by omega)
  have hv : S.may (num n) = true := fits_small (n := n) (by omega)
  have ok := setOK_of hf hv (.inl (by omega))
  have G := get_put (v := num n) h.wf hf
  refine ⟨ok, set_put ok, ⟨put_wf h.wf hf hv, isFrame_put h.wf hf h.is (.inl h.me) (.inl h.bl) (.inr (.inr (.inr (.inr ⟨rfl, rfl, hn⟩)))), ?_, ?_⟩, sim_put h.wf hf, G⟩
  · rw [G, if_neg (by omega)]; exact h.me
  · rw [G, if_neg (by omega)]; exact h.bl
/-- where it goes on turned -/
theorem Fr.next {id n : Int} (h : Fr S id) (hn : 0 ≤ n ∧ n ≤ 5000) : S.setOK id 1 (num n) = true ∧ S.set id 1 (num n) = S.put id 1 (num n) ∧ Fr (S.put id 1 (num n)) id ∧ Sim S (S.put id 1 (num n)) ∧ ∀ k l, (S.put id 1 (num n)).get k l = if k = id ∧ l = 1 then num n else S.get k l := by
  have hf := h.field (l := 1) (by omega)
  have hv : S.may (num n) = true := fits_small (n := n) (by omega)
  have ok := setOK_of hf hv (.inl (by omega))
  have G := get_put (v := num n) h.wf hf
  refine ⟨ok, set_put ok, ⟨put_wf h.wf hf hv, isFrame_put h.wf hf h.is (.inl h.me) (.inl h.bl) (.inr (.inr (.inr (.inl ⟨rfl, rfl⟩)))), ?_, ?_⟩, sim_put h.wf hf, G⟩
  · rw [G, if_neg (by omega)]; exact h.me
  · rw [G, if_neg (by omega)]; exact h.bl
/-- a push goes -/
theorem Fr.push {id : Int} (h : Fr S id) (hs : S.sp id < 16) (hv : S.may v = true) : S.pushOK id v = true ∧ Fr (S.push id v) id ∧ Sim S (S.push id v) ∧ ∀ k l, (S.push id v).get k l = if k = id ∧ l = 2 then num (S.sp id + 1) else if k = id ∧ l = 6 + S.sp id then v else S.get k l := by
  obtain ⟨_, h0, _⟩ := isFrame_sp h.is
  have h0 : 0 ≤ S.sp id := h0
  obtain ⟨a1, a2, a3, a4, a5⟩ := h.slot (j := 6 + S.sp id) (by omega) hv
  obtain ⟨b1, b2, b3, b4, b5⟩ := a3.high (n := S.sp id + 1) (by omega)
  have e1 : S.push1 id v = S.put id (6 + S.sp id) v := a2
  have e : S.push id v = (S.put id (6 + S.sp id) v).put id 2 (num (S.sp id + 1)) := by
    unfold MS.push
    rw [h.is, decide_eq_true hs, a1, if_pos (show (true && (true && true)) = true from rfl), e1, b2]
  refine ⟨?_, e ▸ b3, e ▸ a4.trans b4, fun k l => ?_⟩
  · unfold MS.pushOK; rw [h.is, decide_eq_true hs, a1, e1, b1]; rfl
  · rw [e, b5, a5]
theorem push_full {id : Int} (hs : 16 ≤ S.sp id) : S.pushOK id v = false ∧ S.push id v = S := by
  have e : decide (S.sp id < 16) = false := decide_eq_false (by omega)
  constructor
  · unfold MS.pushOK; rw [e, Bool.false_and, Bool.and_false]
  · unfold MS.push; rw [e, Bool.false_and, Bool.and_false]; rfl
/-- a pop goes -/
theorem Fr.pop {id : Int} (h : Fr S id) (h0 : S.has 0 = true) (hs : 0 < S.sp id) : S.popOK id = true ∧ Fr (S.pop id) id ∧ Sim S (S.pop id) ∧ ∀ k l, (S.pop id).get k l = if k = id ∧ l = 2 then num (S.sp id - 1) else if k = id ∧ l = 6 + S.sp id - 1 then nilV else S.get k l := by
  obtain ⟨_, _, h16⟩ := isFrame_sp h.is
  have h16 : S.sp id ≤ 16 := h16
  have hv : S.may nilV = true := h0
  obtain ⟨a1, a2, a3, a4, a5⟩ := h.slot (j := 6 + S.sp id - 1) (by omega) hv
  obtain ⟨b1, b2, b3, b4, b5⟩ := a3.high (n := S.sp id - 1) (by omega)
  have e1 : S.pop1 id = S.put id (6 + S.sp id - 1) nilV := a2
  have e : S.pop id = (S.put id (6 + S.sp id - 1) nilV).put id 2 (num (S.sp id - 1)) := by
    unfold MS.pop
    rw [e1, b2]
  refine ⟨?_, e ▸ b3, e ▸ a4.trans b4, fun k l => ?_⟩
  · unfold MS.popOK; rw [h.is, decide_eq_false (by omega)]; rfl
  · rw [e, b5, a5]
end
end MS
end Go.Proofs.YtnhijjcplnomgaaGreat.World
