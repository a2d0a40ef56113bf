/-
  Things with four fields of their own: a new block, its fields set.
-/
import Derived.Test.YtnhijjcplnomgaaGreatSetup
namespace Go.Proofs.YtnhijjcplnomgaaGreat.World
open Go.RowKit Go.Proofs.YtnhijjcplnomgaaGreat.Plain
set_option linter.unusedVariables false
namespace MS
section
variable {S S' : MS}
theorem Sim.isFrame (h : Sim S S') {k : Int} (gk : ∀ q, S'.get k q = S.get k q) (gm : ∀ q, S'.get (S.get k 3).n q = S.get (S.get k 3).n q) (gb : ∀ q, S'.get (S.get k 5).n q = S.get (S.get k 5).n q) : S'.isFrame k = S.isFrame k := by
  unfold MS.isFrame MS.numB
  rw [gk, gk, gk, gk, gk, h.isRoom, h.isRoom, h.isMethod gm, h.isBlock gb]
theorem isFrame_room {k : Int} (h : S.isFrame k = true) : S.isRoom (objV k) = true := by
  unfold MS.isFrame at h
  simp only [Bool.and_eq_true] at h
  exact h.2.1
theorem may_num (S : MS) {n : Int} (h : -1000 ≤ n ∧ n ≤ 5000) : S.may (num n) = true := fits_small h
/-! ### a new block -/
def block0 (S : MS) : MS := S.add (newT 13 1 4 (S.last + 1))
structure Own4 (S : MS) (id : Int) (f : Nat → PV) : Prop where
  std : S.Std
  lo : 23 ≤ id
  fmt : S.fmt id = 1
  size : S.size id = 4
  get : ∀ l : Nat, l < 4 → S.get id l = f l
theorem Own4.field {id : Int} {f : Nat → PV} (h : Own4 S id f) {l : Nat} (hl : l < 4) : S.isField id l = true := by
  unfold MS.isField
  rw [fmt_has (by rw [h.fmt]; decide), h.fmt, h.size]
  have : decide (0 ≤ (l : Int) ∧ (l : Int) < 4) = true := decide_eq_true (by omega)
  rw [this]; rfl
theorem Own4.set {id : Int} {f : Nat → PV} (h : Own4 S id f) {l : Nat} (hl : l < 4) {v : PV} (hv : S.may v = true) :
    S.setOK id l v = true ∧ Own4 (S.set id l v) id (fun k => if k = l then v else f k) ∧ Sim S (S.set id l v) ∧ ∀ k q, k ≠ id → (S.set id l v).get k q = S.get k q := by
  have hf := h.field hl
  have G := get_put (v := v) h.std.wf hf
  have hc : S.isClass id = false := by
    unfold MS.isClass
    rw [h.size, show decide ((5 : Int) ≤ 4) = false from rfl]
    simp
  have ok := setOK_of hf hv (.inr hc)
  have e := set_put ok
  refine ⟨ok, ?_, e ▸ sim_put h.std.wf hf, fun k q hk => by rw [e, G, if_neg (fun c => hk c.1)]⟩
  rw [e]
  obtain ⟨h1, h2, _⟩ := field_lt h.std.wf hf
  refine ⟨h.std.put h.lo hf hv, h.lo, by rw [fmt_put ⟨h1, h2⟩]; exact h.fmt, by rw [size_put ⟨h1, h2⟩]; exact h.size, fun k hk => ?_⟩
  rw [G]
  by_cases e2 : k = l
  · rw [if_pos ⟨rfl, by omega⟩, if_pos e2]
  · rw [if_neg (by omega), if_neg e2]; exact h.get k hk
theorem Std.block0 (h : S.Std) (hl : S.last < 3000) : S.makeOK 13 0 = true ∧ S.make 13 0 = S.block0 ∧ S.makeId 13 0 = S.L.length ∧ Own4 S.block0 S.L.length (fun _ => nilV) := by
  obtain ⟨c, n, f⟩ := h.cls 13 (by omega) (by omega)
  have c : S.isClass 13 = true := c
  have n : S.madeN 13 = 4 := n
  have f : S.madeF 13 = 1 := f
  have ok : S.makeOK 13 0 = true := by
    unfold MS.makeOK
    rw [f, n, if_neg (by decide), decide_eq_true hl, c]; rfl
  have hz : S.makeSz 13 0 = 4 := by unfold MS.makeSz; rw [f, n]; rfl
  have e : S.make 13 0 = S.block0 := by unfold MS.make MS.block0; rw [if_pos ok, f, hz]; rfl
  have hw := make_wf h.wf ok
  rw [f, hz] at hw
  have hs : S.block0.Std := h.add hw
  have lo := h.wf.lo
  have hh : S.block0.has S.L.length = true := has_add_new h.wf
  have ht : S.block0.t S.L.length = newT 13 1 4 (S.last + 1) := t_new
  refine ⟨ok, e, by unfold MS.makeId; rw [if_pos ok], hs, by omega, ?_, ?_, fun l hl => ?_⟩
  · unfold MS.fmt; rw [hh, if_pos rfl, ht]; rfl
  · unfold MS.size; rw [hh, if_pos rfl, ht]; rfl
  · have := get_new (x := newT 13 1 4 (S.last + 1)) h.wf l (show (1 : Int) ≠ 3 by decide) (by show 0 ≤ (l : Int) ∧ (l : Int) < 4; omega) rfl
    refine Eq.trans this ?_
    show vAt (List.replicate 4 nilV) _ = nilV
    rw [Int.toNat_natCast]
    exact vAt_rep 4 l nilV hl
end
end MS
end Go.Proofs.YtnhijjcplnomgaaGreat.World
