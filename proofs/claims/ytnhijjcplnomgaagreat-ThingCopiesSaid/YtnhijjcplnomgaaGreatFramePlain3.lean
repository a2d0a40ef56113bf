/-
  Frames, plain: worlds whose first things are the first world's; a new frame.
-/
import Derived.Test.YtnhijjcplnomgaaGreatFramePlain2
import Derived.Test.YtnhijjcplnomgaaGreatMem6
namespace Go.Proofs.YtnhijjcplnomgaaGreat.World
open Go.RowKit Go.Proofs.YtnhijjcplnomgaaGreat.Plain
set_option linter.unusedVariables false
namespace MS
/-- the first things are those of the first world -/
structure Std (S : MS) : Prop where
  wf : S.Wf
  ph : S.phase = 0
  t : ∀ i : Nat, i < 23 → tAt S.L i = firstT i ∧ S.has i = true
section
variable {S : MS} {i j : Int} {v : PV} {x : PT}
theorem Std.put (h : S.Std) (hi : 23 ≤ i) (hf : S.isField i j = true) (hv : S.may v = true) : (S.put i j v).Std := by
  refine ⟨put_wf h.wf hf hv, h.ph, fun k hk => ?_⟩
  have e : tAt (S.put i j v).L k = (S.put i j v).t k := rfl
  obtain ⟨h1, h2, _⟩ := field_lt h.wf hf
  rw [e, t_put ⟨h1, h2⟩, if_neg (by omega), has_put]
  exact h.t k hk
theorem Std.add (h : S.Std) (hw : (S.add x).Wf) : (S.add x).Std := by
  have lo := h.wf.lo
  refine ⟨hw, h.ph, fun k hk => ?_⟩
  have e : tAt (S.add x).L k = (S.add x).t k := rfl
  rw [e, t_old (by omega)]
  exact ⟨(h.t k hk).1, has_add_old h.wf (h.t k hk).2⟩
theorem Std.has0 (h : S.Std) : S.has 0 = true := (h.t 0 (by omega)).2
theorem Std.cls (h : S.Std) (k : Nat) (h3 : 3 ≤ k) (hk : k < 19) : S.isClass k = true ∧ S.madeN k = sizes16.getD (k - 3) 0 ∧ S.madeF k = fmts16.getD (k - 3) 0 := by
  obtain ⟨e, hh⟩ := h.t k (by omega)
  have et : S.t k = firstT k := e
  have ef : firstT k = ⟨10, 1, k + 1, false, [objV 0, objV 0, objV 0, num (sizes16.getD (k - 3) 0), num (fmts16.getD (k - 3) 0)], ByteArray.empty⟩ := by
    unfold firstT; rw [if_neg (by omega), if_pos hk]
  have f3 : S.field k 3 = num (sizes16.getD (k - 3) 0) := by unfold field; rw [et, ef]; rfl
  have f4 : S.field k 4 = num (fmts16.getD (k - 3) 0) := by unfold field; rw [et, ef]; rfl
  have c : S.isClass k = true := by
    unfold isClass
    have a1 : S.fmt k = 1 := by unfold fmt; rw [hh, if_pos rfl, et, ef]
    have a2 : S.size k = 5 := by unfold size; rw [hh, if_pos rfl, et, ef]; rfl
    rw [hh, a1, a2, f3, f4]
    have key : ∀ q : Nat, q < 16 → sizeOK (num (sizes16.getD q 0)) = true ∧ fmtOK (num (fmts16.getD q 0)) = true := by decide
    obtain ⟨b1, b2⟩ := key (k - 3) (by omega)
    rw [b1, b2]; rfl
  refine ⟨c, ?_, ?_⟩
  · unfold madeN; rw [if_pos c, f3]; rfl
  · unfold madeF; rw [if_pos c, f4]; rfl
theorem get_add (w : S.Wf) {k : Int} (hk : k ≠ S.L.length) (l : Int) : (S.add x).get k l = S.get k l := by
  cases hh : S.has k with
  | true => exact get_old w hh l
  | false =>
    have e : (S.add x).has k = false := by rw [has_add w, hh, decide_eq_false hk]; rfl
    unfold get isField
    rw [e, hh]; rfl
theorem get_new (w : S.Wf) (l : Int) (hf : x.fmt ≠ 3) (hl : 0 ≤ l ∧ l < x.F.length) (hB : x.B.size = 0) : (S.add x).get S.L.length l = vAt x.F l.toNat := by
  unfold get isField
  have e : (S.add x).isField S.L.length l = true := by
    unfold isField fmt size
    rw [has_add_new w, if_pos rfl, if_pos rfl, t_new, hB]
    simp [hf, hl]
  have e' := e
  unfold isField at e'
  rw [e', if_pos rfl]
  unfold field
  rw [t_new]
/-! ### a new frame -/
def parts (sender pc temps meth : Int) (self : PV) (block : Int) : List PV := [objV sender, num pc, num temps, objV meth, self, objV block]
/-- fields set, from one on -/
def sets (S : MS) (id : Int) : Nat → List PV → MS
  | _, [] => S
  | k, v :: l => (S.set id k v).sets id (k + 1) l
def frame0 (S : MS) : MS := S.add (newT 12 1 22 (S.last + 1))
def frameN (S : MS) (sender pc temps meth : Int) (self : PV) (block : Int) : MS := S.frame0.sets S.L.length 0 (parts sender pc temps meth self block)
theorem Std.frame0 (h : S.Std) (hl : S.last < 3000) : S.makeOK 12 0 = true ∧ S.make 12 0 = S.frame0 ∧ S.makeId 12 0 = S.L.length ∧ S.frame0.Std := by
  obtain ⟨c, n, f⟩ := h.cls 12 (by omega) (by omega)
  have n : S.madeN 12 = 22 := n
  have f : S.madeF 12 = 1 := f
  have ok : S.makeOK 12 0 = true := by
    unfold makeOK
    rw [f, n, if_neg (by decide), decide_eq_true hl]
    have c : S.isClass 12 = true := c
    rw [c]; rfl
  have hz : S.makeSz 12 0 = 22 := by unfold makeSz; rw [f, n]; rfl
  have e : S.make 12 0 = S.frame0 := by unfold make MS.frame0; rw [if_pos ok, f, hz]; rfl
  have hw := make_wf h.wf ok
  rw [f, hz] at hw
  exact ⟨ok, e, by unfold makeId; rw [if_pos ok], h.add hw⟩
end
/-- a field of a thing that is no class, and is not one of the first: turned -/
structure Own0 (S : MS) (id : Int) (f : Nat → PV) : Prop where
  std : S.Std
  lo : 23 ≤ id
  fmt : S.fmt id = 1
  size : S.size id = 22
  get : ∀ l : Nat, l < 22 → S.get id l = f l
  cls : (f 3).obj = true
theorem Own0.field {S : MS} {id : Int} {f : Nat → PV} (h : Own0 S id f) {l : Nat} (hl : l < 22) : S.isField id l = true := by
  unfold isField
  rw [fmt_has (by rw [h.fmt]; decide), h.fmt, h.size]
  have : decide (0 ≤ (l : Int) ∧ (l : Int) < 22) = true := decide_eq_true (by omega)
  rw [this]; rfl
theorem Own0.set {S : MS} {id : Int} {f : Nat → PV} (h : Own0 S id f) {l : Nat} (hl : l < 22) {v : PV} (hv : S.may v = true) (h3 : l = 3 → v.obj = true) :
    S.setOK id l v = true ∧ Own0 (S.set id l v) id (fun k => if k = l then v else f k) ∧ Sim S (S.set id l v) ∧ (S.set id l v).R = S.R ∧ (S.set id l v) = S.put id l v ∧ ∀ k q, k ≠ id → (S.set id l v).get k q = S.get k q := by
  have hf := h.field hl
  have G := get_put (v := v) h.std.wf hf
  have hc : S.isClass id = false := by
    unfold isClass
    have e : S.field id 3 = f 3 := by
      have := h.get 3 (by omega)
      have h3f := h.field (l := 3) (by omega)
      unfold MS.get at this
      have h3f : S.isField id 3 = true := h3f
      have this : (if S.isField id 3 = true then S.field id 3 else dV) = f 3 := this
      rw [if_pos h3f] at this; exact this
    rw [e]
    unfold sizeOK
    rw [h.cls]
    simp
  have ok := setOK_of hf hv (.inr hc)
  have e := set_put ok
  refine ⟨ok, ?_, e ▸ sim_put h.std.wf hf, by rw [e]; rfl, e, fun k q hk => by rw [e, G, if_neg (fun c => hk c.1)]⟩
  rw [e]
  obtain ⟨h1, h2, _⟩ := field_lt h.std.wf hf
  refine ⟨h.std.put h.lo hf hv, h.lo, by rw [fmt_put ⟨h1, h2⟩]; exact h.fmt, by rw [size_put ⟨h1, h2⟩]; exact h.size, fun k hk => ?_, ?_⟩
  · rw [G]
    by_cases e2 : k = l
    · rw [if_pos ⟨rfl, by omega⟩, if_pos e2]
    · rw [if_neg (by omega), if_neg e2]; exact h.get k hk
  · by_cases e2 : 3 = l
    · simp only [e2, if_true]; exact h3 e2.symm
    · simp only [e2, if_false]; exact h.cls
theorem Std.own0 {S : MS} (h : S.Std) (hl : S.last < 3000) : Own0 S.frame0 S.L.length (fun _ => nilV) := by
  obtain ⟨_, _, _, hs⟩ := h.frame0 hl
  have lo := h.wf.lo
  have hh : S.frame0.has S.L.length = true := has_add_new h.wf
  have ht : S.frame0.t S.L.length = newT 12 1 22 (S.last + 1) := t_new
  refine ⟨hs, by omega, ?_, ?_, fun l hl => ?_, rfl⟩
  · unfold MS.fmt; rw [hh, if_pos rfl, ht]; rfl
  · unfold MS.size; rw [hh, if_pos rfl, ht]; rfl
  · have := get_new (x := newT 12 1 22 (S.last + 1)) h.wf l (show (1 : Int) ≠ 3 by decide) (by show 0 ≤ (l : Int) ∧ (l : Int) < 22; omega) rfl
    refine Eq.trans this ?_
    show vAt (List.replicate 22 nilV) _ = nilV
    rw [Int.toNat_natCast]
    exact vAt_rep 22 l nilV hl
end MS
end Go.Proofs.YtnhijjcplnomgaaGreat.World
