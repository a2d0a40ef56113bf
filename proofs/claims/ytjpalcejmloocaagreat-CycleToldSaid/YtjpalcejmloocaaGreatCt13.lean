/-
  MemPlain, as one text (a claim has at most 60 files).
-/
import Derived.Test.YtjpalcejmloocaaGreatCt02
namespace Go.Proofs.YtjpalcejmloocaaGreat.World
open Go.RowKit Go.Proofs.YtjpalcejmloocaaGreat.Plain
set_option linter.unusedVariables false

structure MS where
  L : List PT
  dead : List Bool
  col : List Int
  last : Int
  R : PR
  phase : Int
  stk : List Int
  most : Nat
  over : Bool
  lst : List Int
  short : Bool
namespace MS
def has (S : MS) (i : Int) : Bool := decide (0 ≤ i ∧ i < S.L.length) && !(S.dead.getD i.toNat false)
def t (S : MS) (i : Int) : PT := tAt S.L i.toNat
def fmt (S : MS) (i : Int) : Int := if S.has i then (S.t i).fmt else 0
def size (S : MS) (i : Int) : Int := if S.has i then ((S.t i).F.length : Int) + ((S.t i).B.size : Int) else -1
def cls (S : MS) (i : Int) : Int := if S.has i then (S.t i).cls else 0
def hash (S : MS) (i : Int) : Int := if S.has i then (S.t i).hash else -1
def field (S : MS) (i j : Int) : PV := vAt (S.t i).F j.toNat
def isField (S : MS) (i j : Int) : Bool := S.has i && (!decide (S.fmt i = 3) && decide (0 ≤ j ∧ j < S.size i))
def get (S : MS) (i j : Int) : PV := if S.isField i j then S.field i j else dV
def may (S : MS) (v : PV) : Bool := if v.obj then S.has v.n else fitsB v.n
def sizeOK (v : PV) : Bool := !v.obj && decide (0 ≤ v.n ∧ v.n ≤ 60)
def fmtOK (v : PV) : Bool := !v.obj && decide (1 ≤ v.n ∧ v.n ≤ 3)
def isClass (S : MS) (i : Int) : Bool := S.has i && (decide (S.fmt i = 1) && (decide (5 ≤ S.size i) && (sizeOK (S.field i 3) && fmtOK (S.field i 4))))
def madeN (S : MS) (c : Int) : Int := if S.isClass c then (S.field c 3).n else 0
def madeF (S : MS) (c : Int) : Int := if S.isClass c then (S.field c 4).n else 0
def setT (S : MS) (i : Int) (x : PT) : MS := { S with L := S.L.set i.toNat x }
def put (S : MS) (i j : Int) (v : PV) : MS := S.setT i { S.t i with F := (S.t i).F.set j.toNat v }
def setOK (S : MS) (i j : Int) (v : PV) : Bool := S.isField i j && (S.may v && !(((decide (j = 3) && !sizeOK v) || (decide (j = 4) && !fmtOK v)) && S.isClass i))
def set (S : MS) (i j : Int) (v : PV) : MS := if S.setOK i j v then S.put i j v else S
def isByte (S : MS) (i j : Int) : Bool := S.has i && (decide (S.fmt i = 3) && decide (0 ≤ j ∧ j < S.size i))
def byte (S : MS) (i j : Int) : Int := if S.isByte i j then (((S.t i).B.data[j.toNat]?.getD 0).toNat : Int) else -1
def nilV : PV := ⟨true, 0⟩
/-- a new thing of a class, its fields nothing -/
def newT (c f : Int) (n : Nat) (h : Int) : PT := if f = 3 then ⟨c, f, h, false, [], strOfNums (List.replicate n 0)⟩ else ⟨c, f, h, false, List.replicate n nilV, ByteArray.empty⟩
def add (S : MS) (x : PT) : MS := { S with L := S.L ++ [x], dead := S.dead ++ [false], col := S.col ++ [0], last := S.last + 1 }
def makeOK (S : MS) (c n : Int) : Bool := S.isClass c && (decide (0 ≤ n) && (decide (n ≤ (if S.madeF c = 3 then 200 else 60 - S.madeN c)) && decide (S.last < 3000)))
def makeSz (S : MS) (c n : Int) : Int := if S.madeF c = 3 then n else S.madeN c + n
def make (S : MS) (c n : Int) : MS := if S.makeOK c n then S.add (newT c (S.madeF c) (S.makeSz c n).toNat (S.last + 1)) else S
def makeId (S : MS) (c n : Int) : Int := if S.makeOK c n then S.L.length else 0
end MS
/-- what is kept of a world, whatever is done -/
structure MS.Wf (S : MS) : Prop where
  dead : S.dead.length = S.L.length
  col : S.col.length = S.L.length
  lo : 23 ≤ S.L.length
  len : (S.L.length : Int) ≤ S.last
  last : S.last ≤ 3000
  fmt : ∀ i, i < S.L.length → (tAt S.L i).fmt = 1 ∨ (tAt S.L i).fmt = 2 ∨ (tAt S.L i).fmt = 3
  noB : ∀ i, i < S.L.length → (tAt S.L i).fmt ≠ 3 → (tAt S.L i).B.size = 0
  noF : ∀ i, i < S.L.length → (tAt S.L i).fmt = 3 → (tAt S.L i).F = []
  nF : ∀ i, i < S.L.length → (tAt S.L i).F.length ≤ 60
  nB : ∀ i, i < S.L.length → (tAt S.L i).B.size ≤ 200
  cls : ∀ i, i < S.L.length → 0 ≤ (tAt S.L i).cls ∧ (tAt S.L i).cls < S.L.length
  hash : ∀ i, i < S.L.length → 1 ≤ (tAt S.L i).hash ∧ (tAt S.L i).hash ≤ 3000
  fld : ∀ i j, i < S.L.length → j < (tAt S.L i).F.length → fldB S.L.length (vAt (tAt S.L i).F j) = true
namespace MS
theorem has_lt {S : MS} {i : Int} (h : S.has i = true) : 0 ≤ i ∧ i < S.L.length := by
  unfold has at h; rw [Bool.and_eq_true] at h; exact of_decide_eq_true h.1
theorem tAt_set (L : List PT) (i j : Nat) (x : PT) (hi : i < L.length) : tAt (L.set i x) j = if j = i then x else tAt L j := by
  unfold tAt
  rw [List.getD_eq_getElem?_getD, List.getD_eq_getElem?_getD, List.getElem?_set]
  by_cases h : j = i
  · subst h; rw [if_pos rfl, if_pos hi, if_pos rfl]; rfl
  · rw [if_neg (fun e => h e.symm), if_neg h]
theorem vAt_set (F : List PV) (i j : Nat) (x : PV) (hi : i < F.length) : vAt (F.set i x) j = if j = i then x else vAt F j := by
  unfold vAt
  rw [List.getD_eq_getElem?_getD, List.getD_eq_getElem?_getD, List.getElem?_set]
  by_cases h : j = i
  · subst h; rw [if_pos rfl, if_pos hi, if_pos rfl]; rfl
  · rw [if_neg (fun e => h e.symm), if_neg h]
theorem tAt_app (L : List PT) (x : PT) (j : Nat) : tAt (L ++ [x]) j = if j < L.length then tAt L j else if j = L.length then x else dT := by
  unfold tAt
  rw [List.getD_eq_getElem?_getD, List.getD_eq_getElem?_getD]
  by_cases h : j < L.length
  · rw [if_pos h, List.getElem?_append_left h]
  · rw [if_neg h, List.getElem?_append_right (by omega)]
    by_cases h2 : j = L.length
    · subst h2; simp
    · rw [if_neg h2, List.getElem?_eq_none (by simp; omega)]; rfl
theorem fldB_mono {n m : Nat} {v : PV} (h : fldB n v = true) (hm : n ≤ m) : fldB m v = true := by
  unfold fldB at *
  split at h
  · rename_i h1; rw [if_pos h1]; simp at h ⊢; omega
  · rename_i h1; rw [if_neg h1]; exact h
/-! ### a field turned -/
section
variable {S : MS} {i j : Int} {v : PV}
theorem field_lt (w : S.Wf) (h : S.isField i j = true) : 0 ≤ i ∧ i < S.L.length ∧ 0 ≤ j ∧ j < (S.t i).F.length ∧ S.has i = true ∧ (S.t i).fmt ≠ 3 := by
  unfold isField at h
  simp only [Bool.and_eq_true, Bool.not_eq_true', decide_eq_false_iff_not, decide_eq_true_eq] at h
  obtain ⟨h1, h2, h3, h4⟩ := h
  have hl := has_lt h1
  have hf : S.fmt i = (S.t i).fmt := by unfold fmt; rw [if_pos h1]
  rw [hf] at h2
  have hb := w.noB i.toNat (by omega) h2
  have hs : S.size i = ((S.t i).F.length : Int) + ((S.t i).B.size : Int) := by unfold size; rw [if_pos h1]
  rw [hs] at h4
  have : (S.t i).B.size = 0 := hb
  exact ⟨hl.1, hl.2, h3, by omega, h1, h2⟩
theorem put_len : (S.put i j v).L.length = S.L.length := by unfold put setT; simp
theorem has_put (k : Int) : (S.put i j v).has k = S.has k := by unfold has; rw [put_len]; rfl
theorem t_put (hi : 0 ≤ i ∧ i < S.L.length) (k : Int) : (S.put i j v).t k = if k.toNat = i.toNat then { S.t i with F := (S.t i).F.set j.toNat v } else S.t k := by
  show tAt (S.L.set i.toNat _) k.toNat = _
  rw [tAt_set _ _ _ _ (by omega)]; rfl
theorem t_put_fmt (hi : 0 ≤ i ∧ i < S.L.length) (k : Int) : ((S.put i j v).t k).fmt = (S.t k).fmt := by
  rw [t_put hi]; split
  · rename_i h; show (S.t i).fmt = _; unfold t; rw [h]
  · rfl
theorem t_put_cls (hi : 0 ≤ i ∧ i < S.L.length) (k : Int) : ((S.put i j v).t k).cls = (S.t k).cls := by
  rw [t_put hi]; split
  · rename_i h; show (S.t i).cls = _; unfold t; rw [h]
  · rfl
theorem t_put_hash (hi : 0 ≤ i ∧ i < S.L.length) (k : Int) : ((S.put i j v).t k).hash = (S.t k).hash := by
  rw [t_put hi]; split
  · rename_i h; show (S.t i).hash = _; unfold t; rw [h]
  · rfl
theorem t_put_B (hi : 0 ≤ i ∧ i < S.L.length) (k : Int) : ((S.put i j v).t k).B = (S.t k).B := by
  rw [t_put hi]; split
  · rename_i h; show (S.t i).B = _; unfold t; rw [h]
  · rfl
theorem t_put_Fl (hi : 0 ≤ i ∧ i < S.L.length) (k : Int) : ((S.put i j v).t k).F.length = (S.t k).F.length := by
  rw [t_put hi]; split
  · rename_i h; show ((S.t i).F.set _ _).length = _; rw [List.length_set]; unfold t; rw [h]
  · rfl
theorem fmt_put (hi : 0 ≤ i ∧ i < S.L.length) (k : Int) : (S.put i j v).fmt k = S.fmt k := by unfold fmt; rw [has_put, t_put_fmt hi]
theorem size_put (hi : 0 ≤ i ∧ i < S.L.length) (k : Int) : (S.put i j v).size k = S.size k := by unfold size; rw [has_put, t_put_Fl hi, t_put_B hi]
theorem cls_put (hi : 0 ≤ i ∧ i < S.L.length) (k : Int) : (S.put i j v).cls k = S.cls k := by unfold cls; rw [has_put, t_put_cls hi]
theorem hash_put (hi : 0 ≤ i ∧ i < S.L.length) (k : Int) : (S.put i j v).hash k = S.hash k := by unfold hash; rw [has_put, t_put_hash hi]
theorem may_put (x : PV) : (S.put i j v).may x = S.may x := by unfold may; rw [has_put]
theorem isField_put (hi : 0 ≤ i ∧ i < S.L.length) (k l : Int) : (S.put i j v).isField k l = S.isField k l := by unfold isField; rw [has_put, fmt_put hi, size_put hi]
theorem isByte_put (hi : 0 ≤ i ∧ i < S.L.length) (k l : Int) : (S.put i j v).isByte k l = S.isByte k l := by unfold isByte; rw [has_put, fmt_put hi, size_put hi]
theorem field_put (hi : 0 ≤ i ∧ i < S.L.length) (hj : 0 ≤ j ∧ j < (S.t i).F.length) (k l : Int) : (S.put i j v).field k l = if k.toNat = i.toNat ∧ l.toNat = j.toNat then v else S.field k l := by
  unfold field
  rw [t_put hi]
  by_cases h : k.toNat = i.toNat
  · rw [if_pos h]
    show vAt ((S.t i).F.set _ _) _ = _
    rw [vAt_set _ _ _ _ (by omega)]
    by_cases h2 : l.toNat = j.toNat
    · rw [if_pos h2, if_pos ⟨h, h2⟩]
    · rw [if_neg h2, if_neg (fun e => h2 e.2)]
      unfold t; rw [h]
  · rw [if_neg h, if_neg (fun e => h e.1)]
theorem put_wf (w : S.Wf) (h : S.isField i j = true) (hv : S.may v = true) : (S.put i j v).Wf := by
  obtain ⟨h1, h2, h3, h4, h5, h6⟩ := field_lt w h
  have hi : 0 ≤ i ∧ i < S.L.length := ⟨h1, h2⟩
  have T : ∀ k : Nat, tAt (S.put i j v).L k = (S.put i j v).t k := fun k => rfl
  have T0 : ∀ k : Nat, tAt S.L k = S.t k := fun k => rfl
  refine ⟨?_, ?_, ?_, ?_, w.last, fun k hk => ?_, fun k hk => ?_, fun k hk => ?_, fun k hk => ?_, fun k hk => ?_, fun k hk => ?_, fun k hk => ?_, fun k l hk hl => ?_⟩
  · rw [put_len]; exact w.dead
  · rw [put_len]; exact w.col
  · rw [put_len]; exact w.lo
  · rw [put_len]; exact w.len
  all_goals rw [put_len] at hk
  · rw [T, t_put_fmt hi]; exact w.fmt k hk
  · rw [T, t_put_fmt hi, t_put_B hi]; exact w.noB k hk
  · rw [T, t_put_fmt hi]
    intro hf
    have e : ((S.put i j v).t k).F.length = 0 := by
      rw [t_put_Fl hi]
      have := w.noF k hk hf
      rw [T0] at this; rw [this]; rfl
    exact List.eq_nil_of_length_eq_zero e
  · rw [T, t_put_Fl hi]; exact w.nF k hk
  · rw [T, t_put_B hi]; exact w.nB k hk
  · rw [T, t_put_cls hi, put_len]; exact w.cls k hk
  · rw [T, t_put_hash hi]; exact w.hash k hk
  · rw [put_len]
    rw [T, t_put_Fl hi] at hl
    have e : vAt (tAt (S.put i j v).L k).F l = (S.put i j v).field k l := rfl
    rw [e, field_put hi ⟨h3, h4⟩]
    split
    · unfold may at hv
      unfold fldB
      split at hv
      · rename_i ho; rw [if_pos ho]; have := has_lt hv; simp; omega
      · rename_i ho; rw [if_neg ho]; exact hv
    · exact w.fld k l hk hl
end
/-! ### a thing more -/
section
variable {S : MS} {x : PT}
theorem add_len : (S.add x).L.length = S.L.length + 1 := by unfold add; simp
theorem has_add (w : S.Wf) (k : Int) : (S.add x).has k = (S.has k || decide (k = S.L.length)) := by
  unfold has
  rw [add_len]
  show (_ && !((S.dead ++ [false]).getD k.toNat false)) = _
  rw [List.getD_eq_getElem?_getD, List.getD_eq_getElem?_getD]
  by_cases h : 0 ≤ k ∧ k < S.L.length
  · have hd := w.dead
    rw [List.getElem?_append_left (by omega)]
    have e1 : decide (0 ≤ k ∧ k < ((S.L.length + 1 : Nat) : Int)) = true := decide_eq_true (by omega)
    have e2 : decide (0 ≤ k ∧ k < (S.L.length : Int)) = true := decide_eq_true h
    have e3 : decide (k = (S.L.length : Int)) = false := decide_eq_false (by omega)
    rw [e1, e2, e3, Bool.or_false]
  · have e2 : decide (0 ≤ k ∧ k < (S.L.length : Int)) = false := decide_eq_false h
    rw [e2, Bool.false_and, Bool.false_or]
    by_cases h2 : k = S.L.length
    · subst h2
      have hd := w.dead
      rw [decide_eq_true rfl, List.getElem?_append_right (by omega), hd]
      simp
      omega
    · rw [decide_eq_false h2, decide_eq_false (by omega), Bool.false_and]
theorem t_old {k : Int} (h : k.toNat < S.L.length) : (S.add x).t k = S.t k := by
  show tAt (S.L ++ [x]) k.toNat = _
  rw [tAt_app, if_pos h]; rfl
theorem t_new : (S.add x).t S.L.length = x := by
  show tAt (S.L ++ [x]) _ = _
  rw [tAt_app, Int.toNat_natCast, if_neg (by omega), if_pos rfl]
theorem has_add_new (w : S.Wf) : (S.add x).has S.L.length = true := by rw [has_add w]; simp
theorem has_add_old (w : S.Wf) {k : Int} (h : S.has k = true) : (S.add x).has k = true := by rw [has_add w, h]; rfl
variable {k : Int}
theorem fmt_old (w : S.Wf) (h : S.has k = true) : (S.add x).fmt k = S.fmt k := by
  have := has_lt h
  unfold fmt; rw [has_add_old w h, h, t_old (by omega)]
theorem size_old (w : S.Wf) (h : S.has k = true) : (S.add x).size k = S.size k := by
  have := has_lt h
  unfold size; rw [has_add_old w h, h, t_old (by omega)]
theorem cls_old (w : S.Wf) (h : S.has k = true) : (S.add x).cls k = S.cls k := by
  have := has_lt h
  unfold cls; rw [has_add_old w h, h, t_old (by omega)]
theorem hash_old (w : S.Wf) (h : S.has k = true) : (S.add x).hash k = S.hash k := by
  have := has_lt h
  unfold hash; rw [has_add_old w h, h, t_old (by omega)]
theorem field_old (h : S.has k = true) (l : Int) : (S.add x).field k l = S.field k l := by
  have := has_lt h
  unfold field; rw [t_old (by omega)]
theorem isField_old (w : S.Wf) (h : S.has k = true) (l : Int) : (S.add x).isField k l = S.isField k l := by
  unfold isField; rw [has_add_old w h, h, fmt_old w h, size_old w h]
theorem get_old (w : S.Wf) (h : S.has k = true) (l : Int) : (S.add x).get k l = S.get k l := by
  unfold get; rw [isField_old w h, field_old h]
theorem isClass_old (w : S.Wf) (h : S.has k = true) : (S.add x).isClass k = S.isClass k := by
  unfold isClass; rw [has_add_old w h, h, fmt_old w h, size_old w h, field_old h, field_old h]
theorem may_old (w : S.Wf) {v : PV} (h : S.may v = true) : (S.add x).may v = true := by
  unfold may at *
  split at h
  · rename_i ho; rw [if_pos ho]; exact has_add_old w h
  · rename_i ho; rw [if_neg ho]; exact h
theorem add_wf (w : S.Wf) (hl : S.last < 3000) (h1 : x.fmt = 1 ∨ x.fmt = 2 ∨ x.fmt = 3) (h2 : x.fmt ≠ 3 → x.B.size = 0) (h3 : x.fmt = 3 → x.F = []) (h4 : x.F.length ≤ 60) (h5 : x.B.size ≤ 200) (h6 : 0 ≤ x.cls ∧ x.cls < S.L.length) (h7 : 1 ≤ x.hash ∧ x.hash ≤ 3000)
    (h8 : ∀ j, j < x.F.length → fldB S.L.length (vAt x.F j) = true) : (S.add x).Wf := by
  have T : ∀ k : Nat, k < S.L.length + 1 → (k < S.L.length ∧ tAt (S.add x).L k = tAt S.L k) ∨ (k = S.L.length ∧ tAt (S.add x).L k = x) := by
    intro k hk
    rcases Nat.lt_or_ge k S.L.length with h | h
    · exact .inl ⟨h, (t_old (k := (k : Int)) h)⟩
    · obtain rfl : k = S.L.length := by omega
      exact .inr ⟨rfl, t_new⟩
  refine ⟨?_, ?_, ?_, ?_, ?_, fun k hk => ?_, fun k hk => ?_, fun k hk => ?_, fun k hk => ?_, fun k hk => ?_, fun k hk => ?_, fun k hk => ?_, fun k l hk hl => ?_⟩
  · show (S.dead ++ [false]).length = _; rw [add_len, List.length_append, w.dead]; rfl
  · show (S.col ++ [0]).length = _; rw [add_len, List.length_append, w.col]; rfl
  · rw [add_len]; have := w.lo; omega
  · rw [add_len]; show _ ≤ S.last + 1; have := w.len; omega
  · show S.last + 1 ≤ 3000; omega
  all_goals rw [add_len] at hk
  all_goals rcases T k hk with ⟨hk2, e⟩ | ⟨hk2, e⟩
  all_goals rw [e]
  · exact w.fmt k hk2
  · exact h1
  · exact w.noB k hk2
  · exact h2
  · exact w.noF k hk2
  · exact h3
  · exact w.nF k hk2
  · exact h4
  · exact w.nB k hk2
  · exact h5
  · rw [add_len]; have := w.cls k hk2; omega
  · rw [add_len]; omega
  · exact w.hash k hk2
  · exact h7
  · rw [e] at hl
    rw [add_len]; exact fldB_mono (w.fld k l hk2 hl) (by omega)
  · rw [e] at hl
    rw [add_len]; exact fldB_mono (h8 l hl) (by omega)
end
end MS
end Go.Proofs.YtjpalcejmloocaaGreat.World
