/-
  FrameHomes, plain: frames within one another.
-/
import Derived.Test.YtnhijjcplnomgaaStackPlain
namespace Go.Proofs.Ytnhijjcplnomgaa.World
open Go.RowKit Go.Proofs.Ytnhijjcplnomgaa.Plain
set_option linter.unusedVariables false
namespace MS
section
variable {S S' : MS}
theorem Sim.isFrame (h : Sim S S') {k : Int} (gk : ∀ q, S'.get k q = S.get k q) (gm : ∀ q, S'.get (S.get k 3).n q = S.get (S.get k 3).n q) (gb : ∀ q, S'.get (S.get k 5).n q = S.get (S.get k 5).n q) : S'.isFrame k = S.isFrame k := by
  unfold MS.isFrame MS.numB
  rw [gk, gk, gk, gk, gk, h.isRoom, h.isRoom, h.isMethod gm, h.isBlock gb]
theorem isFrame_room {k : Int} (h : S.isFrame k = true) : S.isRoom (objV k) = true := by
  unfold MS.isFrame at h
  simp only [Bool.and_eq_true] at h
  exact h.2.1
theorem may_num (S : MS) {n : Int} (h : -1000 ≤ n ∧ n ≤ 5000) : S.may (num n) = true := fits_small h
/-! ### a new block -/
def block0 (S : MS) : MS := S.add (newT 13 1 4 (S.last + 1))
def blockA (S : MS) (id : Int) : MS := S.block0.set S.L.length 0 (objV id)
def blockB (S : MS) (id : Int) : MS := (S.blockA id).set S.L.length 1 (num 0)
def blockC (S : MS) (id : Int) : MS := (S.blockB id).set S.L.length 2 (num 4)
def blockD (S : MS) (id : Int) : MS := (S.blockC id).set S.L.length 3 (num 0)
structure Own4 (S : MS) (id : Int) (f : Nat → PV) : Prop where
  std : S.Std
  lo : 23 ≤ id
  fmt : S.fmt id = 1
  size : S.size id = 4
  get : ∀ l : Nat, l < 4 → S.get id l = f l
theorem Own4.field {id : Int} {f : Nat → PV} (h : Own4 S id f) {l : Nat} (hl : l < 4) : S.isField id l = true := by
  unfold MS.isField
  rw [fmt_has (by rw [h.fmt]; decide), h.fmt, h.size]
  have : decide (0 ≤ (l : Int) ∧ (l : Int) < 4) = true := decide_eq_true (by omega)
  rw [this]; rfl
theorem Own4.set {id : Int} {f : Nat → PV} (h : Own4 S id f) {l : Nat} (hl : l < 4) {v : PV} (hv : S.may v = true) :
    S.setOK id l v = true ∧ Own4 (S.set id l v) id (fun k => if k = l then v else f k) ∧ Sim S (S.set id l v) ∧ ∀ k q, k ≠ id → (S.set id l v).get k q = S.get k q := by
  have hf := h.field hl
  have G := get_put (v := v) h.std.wf hf
  have hc : S.isClass id = false := by
    unfold MS.isClass
    rw [h.size, show decide ((5 : Int) ≤ 4) = false from rfl]
    simp
  have ok := setOK_of hf hv (.inr hc)
  have e := set_put ok
  refine ⟨ok, ?_, e ▸ sim_put h.std.wf hf, fun k q hk => by rw [e, G, if_neg (fun c => hk c.1)]⟩
  rw [e]
  obtain ⟨h1, h2, _⟩ := field_lt h.std.wf hf
  refine ⟨h.std.put h.lo hf hv, h.lo, by rw [fmt_put ⟨h1, h2⟩]; exact h.fmt, by rw [size_put ⟨h1, h2⟩]; exact h.size, fun k hk => ?_⟩
  rw [G]
  by_cases e2 : k = l
  · rw [if_pos ⟨rfl, by omega⟩, if_pos e2]
  · rw [if_neg (by omega), if_neg e2]; exact h.get k hk
theorem Std.block0 (h : S.Std) (hl : S.last < 3000) : S.makeOK 13 0 = true ∧ S.make 13 0 = S.block0 ∧ S.makeId 13 0 = S.L.length ∧ Own4 S.block0 S.L.length (fun _ => nilV) := by
  obtain ⟨c, n, f⟩ := h.cls 13 (by omega) (by omega)
  have c : S.isClass 13 = true := c
  have n : S.madeN 13 = 4 := n
  have f : S.madeF 13 = 1 := f
  have ok : S.makeOK 13 0 = true := by
    unfold MS.makeOK
    rw [f, n, if_neg (by decide), decide_eq_true hl, c]; rfl
  have hz : S.makeSz 13 0 = 4 := by unfold MS.makeSz; rw [f, n]; rfl
  have e : S.make 13 0 = S.block0 := by unfold MS.make MS.block0; rw [if_pos ok, f, hz]; rfl
  have hw := make_wf h.wf ok
  rw [f, hz] at hw
  have hs : S.block0.Std := h.add hw
  have lo := h.wf.lo
  have hh : S.block0.has S.L.length = true := has_add_new h.wf
  have ht : S.block0.t S.L.length = newT 13 1 4 (S.last + 1) := t_new
  refine ⟨ok, e, by unfold MS.makeId; rw [if_pos ok], hs, by omega, ?_, ?_, fun l hl => ?_⟩
  · unfold MS.fmt; rw [hh, if_pos rfl, ht]; rfl
  · unfold MS.size; rw [hh, if_pos rfl, ht]; rfl
  · have := get_new (x := newT 13 1 4 (S.last + 1)) h.wf l (show (1 : Int) ≠ 3 by decide) (by show 0 ≤ (l : Int) ∧ (l : Int) < 4; omega) rfl
    refine Eq.trans this ?_
    show vAt (List.replicate 4 nilV) _ = nilV
    rw [Int.toNat_natCast]
    exact vAt_rep 4 l nilV hl
structure NewBl (S : MS) (id : Int) : Prop where
  a : S.block0.setOK S.L.length 0 (objV id) = true
  b : (S.blockA id).setOK S.L.length 1 (num 0) = true
  c : (S.blockB id).setOK S.L.length 2 (num 4) = true
  d : (S.blockC id).setOK S.L.length 3 (num 0) = true
  std : (S.blockD id).Std
  sim : Sim S.block0 (S.blockD id)
  home : (S.blockD id).get S.L.length 0 = objV id
  old : ∀ (k q : Int), k ≠ (S.L.length : Int) → (S.blockD id).get k q = S.get k q
  is : (S.blockD id).isBlock S.L.length = true
theorem Std.newBl (h : S.Std) (hl : S.last < 3000) {id : Int} (hr : S.isRoom (objV id) = true) : NewBl S id := by
  obtain ⟨_, _, _, o0⟩ := h.block0 hl
  have hid : S.block0.has id = true := has_add_old h.wf (isRoom_has hr)
  obtain ⟨a, o1, m1, g1⟩ := o0.set (l := 0) (by omega) (v := objV id) hid
  obtain ⟨b, o2, m2, g2⟩ := o1.set (l := 1) (by omega) (v := num 0) (fits_small (n := 0) (by omega))
  obtain ⟨c, o3, m3, g3⟩ := o2.set (l := 2) (by omega) (v := num 4) (fits_small (n := 4) (by omega))
  obtain ⟨d, o4, m4, g4⟩ := o3.set (l := 3) (by omega) (v := num 0) (fits_small (n := 0) (by omega))
  have m : Sim S.block0 (S.blockD id) := ((m1.trans m2).trans m3).trans m4
  have o : Own4 (S.blockD id) S.L.length (fun k => if k = 3 then num 0 else if k = 2 then num 4 else if k = 1 then num 0 else if k = 0 then objV id else nilV) := o4
  have q0 : (S.blockD id).get S.L.length 0 = objV id := o.get 0 (by omega)
  have q1 : (S.blockD id).get S.L.length 1 = num 0 := o.get 1 (by omega)
  have q2 : (S.blockD id).get S.L.length 2 = num 4 := o.get 2 (by omega)
  have q3 : (S.blockD id).get S.L.length 3 = num 0 := o.get 3 (by omega)
  refine ⟨a, b, c, d, o.std, m, q0, fun k q hk => ((g4 k q hk).trans ((g3 k q hk).trans ((g2 k q hk).trans (g1 k q hk)))).trans (get_add h.wf hk q), ?_⟩
  unfold MS.isBlock MS.numB
  rw [q0, q1, q2, q3, m.isRoom]
  have p : (S.blockD id).plainB ⟨true, S.L.length⟩ 4 = true := by
    unfold MS.plainB
    have e1 : (S.blockD id).fmt S.L.length = 1 := o.fmt
    have e2 : (S.blockD id).size S.L.length = 4 := o.size
    show (true && (decide ((S.blockD id).fmt S.L.length = 1) && decide (4 ≤ (S.blockD id).size S.L.length))) = true
    rw [e1, e2]; rfl
  rw [p, show S.block0.isRoom (objV id) = true from isRoom_add h.wf hr]
  rfl
theorem NewBl.keep (h : S.Std) {id : Int} (N : NewBl S id) {k : Int} (hk : S.isFrame k = true) (h3 : (S.get k 3).n ≠ S.L.length) (h5 : (S.get k 5).n ≠ S.L.length) : (S.blockD id).isFrame k = true := by
  have lt := has_lt (isFrame_has hk)
  have g : ∀ kk : Int, kk ≠ S.L.length → ∀ q, (S.blockD id).get kk q = S.block0.get kk q := fun kk hkk q => (N.old kk q hkk).trans (get_add h.wf hkk q).symm
  have e : ∀ q, S.block0.get k q = S.get k q := fun q => get_add h.wf (by omega) q
  rw [N.sim.isFrame (g k (by omega)) (g _ (by rw [e]; exact h3)) (g _ (by rw [e]; exact h5))]
  exact isFrame_add h.wf hk
theorem NewFr.keep {id : Int} {f : Nat → PV} (h : S.Std) (N : NewFr S S' id f) (hid : id = S.L.length) {k : Int} (hk : S.isFrame k = true) (h3 : (S.get k 3).n ≠ S.L.length) (h5 : (S.get k 5).n ≠ S.L.length) : S'.isFrame k = true := by
  subst hid
  have lt := has_lt (isFrame_has hk)
  have g : ∀ kk : Int, kk ≠ S.L.length → ∀ q, S'.get kk q = S.frame0.get kk q := fun kk hkk q => (N.old kk q hkk).trans (get_add h.wf hkk q).symm
  have e : ∀ q, S.frame0.get k q = S.get k q := fun q => get_add h.wf (by omega) q
  rw [N.sim.isFrame (g k (by omega)) (g _ (by rw [e]; exact h3)) (g _ (by rw [e]; exact h5))]
  exact isFrame_add h.wf hk
end
end MS
/-! ### frames within one another -/
def homeId (j : Nat) : Int := if j = 0 then 25 else 26 + 2 * j
theorem homeId_bd (j : Nat) : 25 ≤ homeId j ∧ homeId j ≤ 26 + 2 * j ∧ (homeId j = 25 ∨ homeId j = 26 + 2 * j) := by unfold homeId; split <;> omega
structure Hom (S : MS) (i : Nat) : Prop where
  std : S.Std
  last : S.last = S.L.length
  len : S.L.length = 25 + 2 * i
  meth : S.isMethod 24 = true
  is : ∀ j, j < i → S.isFrame (homeId j) = true
  me : ∀ j, j < i → S.get (homeId j) 3 = objV 24
  bl : ∀ j, j < i → S.get (homeId j) 5 = if j = 0 then objV 0 else objV (25 + 2 * j)
  ho : ∀ j : Nat, 0 < j → j < i → S.get (25 + 2 * j) 0 = objV (homeId (j - 1))
section
variable {S : MS} {i : Nat}
theorem Hom.bl_ne (h : Hom S i) {j : Nat} (hj : j < i) (n : Int) (hn : 25 + 2 * (i : Int) ≤ n) : (S.get (homeId j) 3).n ≠ n ∧ (S.get (homeId j) 5).n ≠ n := by
  rw [h.me j hj, h.bl j hj]
  refine ⟨?_, ?_⟩
  · show (24 : Int) ≠ n; omega
  · split
    · show (0 : Int) ≠ n; omega
    · show 25 + 2 * (j : Int) ≠ n; omega
def homeB (S : MS) (i : Nat) : MS := S.blockD (homeId (i - 1))
def homeF (S : MS) (i : Nat) : MS := (homeB S i).frameN (homeId (i - 1)) 0 4 24 (num i) S.L.length
structure HomStep (S : MS) (i : Nat) : Prop where
  nb : MS.NewBl S (homeId (i - 1))
  nf : MS.NewFr (homeB S i) (homeF S i) (homeB S i).L.length (MS.frameF (homeId (i - 1)) 0 4 24 (num i) S.L.length)
  len : (homeB S i).L.length = S.L.length + 1
  last : (homeB S i).last = S.last + 1
  has : (homeB S i).has (homeId (i - 1)) = true
  meth : (homeB S i).isMethod 24 = true
theorem Hom.step (h : Hom S i) (h1 : 1 ≤ i) (h9 : i ≤ 20) : HomStep S i := by
  have hl := h.len
  have hla := h.last
  have hr := MS.isFrame_room (h.is (i - 1) (by omega))
  have nb := h.std.newBl (by omega) hr
  have len : (homeB S i).L.length = S.L.length + 1 := nb.sim.len.trans MS.add_len
  have last : (homeB S i).last = S.last + 1 := nb.sim.last
  have hr5 : (homeB S i).isRoom (objV (homeId (i - 1))) = true := by
    unfold homeB; rw [nb.sim.isRoom]; exact MS.isRoom_add h.std.wf hr
  have hm5 : (homeB S i).isMethod 24 = true := by
    unfold homeB
    rw [nb.sim.isMethod (fun q => (nb.old 24 q (by omega)).trans (MS.get_add h.std.wf (by omega) q).symm)]
    exact MS.isMethod_add h.std.wf h.meth
  exact ⟨nb, MS.Std.newFr (S := homeB S i) nb.std (by omega) (MS.isRoom_has hr5) (.inr hr5) (by omega) (by omega) hm5 (MS.may_num _ (by omega)) (.inr nb.is), len, last, MS.isRoom_has hr5, hm5⟩
theorem Hom.next (h : Hom S i) (h1 : 1 ≤ i) (h9 : i ≤ 20) : Hom (homeF S i) (i + 1) := by
  obtain ⟨nb, nf, len, last, _, hm5⟩ := h.step h1 h9
  have hl := h.len
  have hla := h.last
  have wB : (homeB S i).Std := nb.std
  have ln : (homeF S i).L.length = 25 + 2 * (i + 1) := by
    have : (homeF S i).L.length = (homeB S i).L.length + 1 := nf.sim.len.trans MS.add_len
    omega
  have lst : (homeF S i).last = (homeB S i).last + 1 := nf.sim.last
  have gB : ∀ (k q : Int), k ≠ (S.L.length : Int) → (homeB S i).get k q = S.get k q := nb.old
  have g : ∀ (k q : Int), k < (S.L.length : Int) → (homeF S i).get k q = S.get k q := fun k q hk => (nf.old k q (by omega)).trans (gB k q (by omega))
  have idn : homeId i = ((homeB S i).L.length : Int) := by unfold homeId; rw [if_neg (by omega)]; omega
  have idl : ∀ j, j < i → homeId j < (S.L.length : Int) := fun j hj => by have := homeId_bd j; omega
  have q3 : (homeF S i).get (homeB S i).L.length 3 = objV 24 := nf.own.get 3 (by omega)
  have q5 : (homeF S i).get (homeB S i).L.length 5 = objV S.L.length := nf.own.get 5 (by omega)
  refine ⟨nf.own.std, by omega, ln, nf.meth wB rfl hm5, fun j hj => ?_, fun j hj => ?_, fun j hj => ?_, fun j h0 hj => ?_⟩
  · by_cases e : j = i
    · rw [e, idn]; exact nf.fr.is
    · have hj : j < i := by omega
      obtain ⟨a, b⟩ := h.bl_ne hj S.L.length (by omega)
      have f5 : (homeB S i).isFrame (homeId j) = true := nb.keep h.std (h.is j hj) a b
      have gj : ∀ q, (homeB S i).get (homeId j) q = S.get (homeId j) q := fun q => gB _ q (by have := idl j hj; omega)
      obtain ⟨a', b'⟩ := h.bl_ne hj (homeB S i).L.length (by omega)
      exact nf.keep wB rfl f5 (by rw [gj]; exact a') (by rw [gj]; exact b')
  · by_cases e : j = i
    · rw [e, idn]; exact q3
    · rw [g _ _ (idl j (by omega))]; exact h.me j (by omega)
  · by_cases e : j = i
    · rw [e, idn, q5, if_neg (by omega)]
      rw [show ((S.L.length : Nat) : Int) = 25 + 2 * (i : Int) from by omega]
    · rw [g _ _ (idl j (by omega))]; exact h.bl j (by omega)
  · by_cases e : j = i
    · subst e
      have hh : (homeB S j).get S.L.length 0 = objV (homeId (j - 1)) := nb.home
      have e2 : (25 + 2 * (j : Int)) = (S.L.length : Int) := by omega
      rw [e2, nf.old _ _ (by omega)]
      exact hh
    · rw [g _ _ (by omega)]; exact h.ho j h0 (by omega)
theorem Hom.outN (h : Hom S i) : ∀ (o j : Nat), j < i → S.outN o (homeId j) = if o ≤ j then some (homeId (j - o)) else none
  | 0, j, hj => by rw [if_pos (Nat.zero_le _), Nat.sub_zero]; rfl
  | o + 1, j, hj => by
    show (if MS.isNil (S.get (homeId j) 5) then none else if S.isFrame (S.get (S.get (homeId j) 5).n 0).n then S.outN o (S.get (S.get (homeId j) 5).n 0).n else none) = _
    rw [h.bl j hj]
    by_cases e : j = 0
    · rw [if_pos e, show MS.isNil (objV 0) = true from rfl, if_pos rfl, if_neg (by omega)]
    · rw [if_neg e]
      have e1 : MS.isNil (objV (25 + 2 * (j : Int))) = false := by
        unfold MS.isNil objV
        rw [decide_eq_false (by show 25 + 2 * (j : Int) ≠ 0; omega)]; rfl
      rw [e1]
      show (if S.isFrame (S.get (25 + 2 * (j : Int)) 0).n then S.outN o (S.get (25 + 2 * (j : Int)) 0).n else none) = _
      rw [h.ho j (by omega) hj]
      show (if S.isFrame (homeId (j - 1)) then S.outN o (homeId (j - 1)) else none) = _
      rw [h.is (j - 1) (by omega), if_pos rfl, h.outN o (j - 1) (by omega)]
      by_cases e2 : o + 1 ≤ j
      · rw [if_pos (by omega), if_pos e2, show j - 1 - o = j - (o + 1) from by omega]
      · rw [if_neg (by omega), if_neg e2]
/-! ### their temps set -/
structure HomV (S : MS) (i c : Nat) : Prop where
  hom : Hom S i
  val : ∀ j q : Nat, j < i → q < 4 → 4 * j + q < c → S.get (homeId j) (6 + q) = num (10 * j + q)
theorem homeId_inj {a b : Nat} (h : homeId a = homeId b) : a = b := by
  unfold homeId at h
  split at h <;> split at h <;> omega
theorem HomV.set {c : Nat} (h : HomV S i c) {j q : Nat} (hj : j < i) (hq : q < 4) (hc : c = 4 * j + q) (hi : i ≤ 20) : S.setOK (homeId j) (6 + q) (num (10 * j + q)) = true ∧ HomV (S.set (homeId j) (6 + q) (num (10 * j + q))) i (c + 1) := by
  have hf := MS.isFrame_field (h.hom.is j hj) (l := 6 + q) (by omega)
  have hv : S.may (num (10 * j + q)) = true := MS.may_num _ (by omega)
  have ok := MS.setOK_of hf hv (.inl (by omega))
  have e := MS.set_put ok
  have wf := h.hom.std.wf
  have G := MS.get_put (v := num (10 * j + q)) wf hf
  have bd := homeId_bd j
  refine ⟨ok, ?_⟩
  rw [e]
  have sm := MS.sim_put (v := num (10 * j + q)) wf hf
  refine ⟨⟨h.hom.std.put (by omega) hf hv, sm.last.trans (h.hom.last.trans (by rw [sm.len])), sm.len.trans h.hom.len, ?_, fun a ha => ?_, fun a ha => ?_, fun a ha => ?_, fun a h0 ha => ?_⟩, fun a b ha hb hab => ?_⟩
  · rw [MS.isMethod_put wf hf _ (.inr (by omega))]; exact h.hom.meth
  · exact MS.isFrame_put wf hf (h.hom.is a ha) (.inr (by omega)) (.inr (by omega)) (.inr (.inl (by omega)))
  · rw [G, if_neg (by omega)]; exact h.hom.me a ha
  · rw [G, if_neg (by omega)]; exact h.hom.bl a ha
  · rw [G, if_neg (by omega)]; exact h.hom.ho a h0 ha
  · rw [G]
    by_cases e2 : a = j ∧ b = q
    · rw [if_pos ⟨by rw [e2.1], by rw [e2.2]⟩, e2.1, e2.2]
    · rw [if_neg (fun c => e2 ⟨homeId_inj c.1, by omega⟩)]
      refine h.val a b ha hb ?_
      by_cases e3 : a = j
      · subst e3
        have : b ≠ q := fun hh => e2 ⟨rfl, hh⟩
        omega
      · omega
end
end Go.Proofs.Ytnhijjcplnomgaa.World
