/-
  ThingFields, plain: an Array, a text; what is read of it, what is set.
-/
import Derived.Test.YtnhijjcplnomgaaGreatPrimBytes
import Derived.Test.YtnhijjcplnomgaaGreatThingNews0
namespace Go.Proofs.YtnhijjcplnomgaaGreat.World
open Go.RowKit Go.Proofs.YtnhijjcplnomgaaGreat.Plain
set_option linter.unusedVariables false
def clsT (text : Bool) : Int := if text = true then 8 else 7
def TS (text : Bool) (k : Nat) : MS := T0.make (clsT text) k
def zeroV (text : Bool) : PV := if text = true then num 0 else objV 0
structure TSF (text : Bool) (k : Nat) : Prop where
  p0 : T0.phase = 0
  a1 : T0.makeOK (clsT text) k = true
  a2 : T0.makeId (clsT text) k = 23
  a3 : T0.may ⟨true, clsT text⟩ = true
  a4 : T0.may ⟨false, k⟩ = true
  p1 : (TS text k).phase = 0
  sz : (TS text k).size 23 = k
  fm : (TS text k).fmt 23 = if text = true then 3 else 1
  has : (TS text k).has 23 = true
  nc : (TS text k).isClass 23 = false
  len : (TS text k).L.length = 24
  gt : text = false → ∀ q, q < k → ((TS text k).get 23 q).obj = true ∧ ((TS text k).get 23 q).n = 0
  bt : text = true → ∀ q, q < k → byteN ((TS text k).t 23).B q = 0
  bs : text = true → ((TS text k).t 23).B.size = k
theorem tsf (text : Bool) (k : Nat) (hk : k < 40) : TSF text k := by
  have h : ∀ t : Bool, ∀ k : Fin 40, T0.phase = 0 ∧ T0.makeOK (clsT t) k.1 = true ∧ T0.makeId (clsT t) k.1 = 23 ∧ T0.may ⟨true, clsT t⟩ = true ∧ T0.may ⟨false, k.1⟩ = true ∧ (TS t k).phase = 0 ∧ (TS t k).size 23 = k.1 ∧ (TS t k).fmt 23 = (if t = true then 3 else 1) ∧ (TS t k).has 23 = true ∧ (TS t k).isClass 23 = false ∧ (TS t k).L.length = 24 ∧ (t = false → ∀ q : Fin 40, q.1 < k.1 → ((TS t k).get 23 q.1).obj = true ∧ ((TS t k).get 23 q.1).n = 0) ∧ (t = true → ∀ q : Fin 40, q.1 < k.1 → byteN ((TS t k).t 23).B q.1 = 0) ∧ (t = true → ((TS t k).t 23).B.size = k.1) := by decide +kernel
  obtain ⟨h1, h2, h3, h4, h5, h6, h7, h8, h9, h10, h11, h12, h13, h14⟩ := h text ⟨k, hk⟩
  exact ⟨h1, h2, h3, h4, h5, h6, h7, h8, h9, h10, h11, fun e q hq => h12 e ⟨q, by omega⟩ hq, fun e q hq => h13 e ⟨q, by omega⟩ hq, h14⟩
/-- what is read at the places of a thing -/
structure Reads (T : MS) (k : Nat) (rd : Nat → PV) : Prop where
  sz : T.size 23 = k
  may : ∀ v, T.may v = (TS false 0).may v
  get : ∀ (W : World) (F : Nat → Prop) (m : Nat), M W F m T → ∀ q, q < k → Calls Tryz.prog 60 #[.pointer (some ⟨m, 0, none⟩), .agg #[.bool true, .int .i64 23], .agg #[.bool false, .int .i64 ((q : Int) + 1)]] W fun e w' => e = .returned (.tuple #[.agg #[.bool (rd q).obj, .int .i64 (rd q).n], .bool true]) ∧ Ext W w'
theorem may_of {S T : MS} (h : ∀ i, S.has i = T.has i) (v : PV) : S.may v = T.may v := by unfold MS.may; rw [h]
theorem has_TS (text : Bool) (k : Nat) (hk : k < 40) (i : Int) : (TS text k).has i = (TS false 0).has i := by
  have a := tsf text k hk
  have b := tsf false 0 (by omega)
  have e : ∀ t q, TSF t q → (TS t q).dead = List.replicate 24 false := fun t q f => by
    have : TS t q = T0.add (MS.newT (clsT t) (T0.madeF (clsT t)) (T0.makeSz (clsT t) q).toNat (T0.last + 1)) := by unfold TS MS.make; rw [f.a1, if_pos rfl]
    rw [this]
    show (List.replicate firstW.L.length false) ++ [false] = _
    rfl
  unfold MS.has
  rw [a.len, b.len, e _ _ a, e _ _ b]
theorem reads0 (text : Bool) (k : Nat) (hk : k < 40) : Reads (TS text k) k (fun _ => zeroV text) := by
  have f := tsf text k hk
  refine ⟨f.sz, fun v => may_of (has_TS text k hk) v, fun W F m hM q hq => ?_⟩
  cases text with
  | false =>
    obtain ⟨g1, g2⟩ := f.gt rfl q hq
    have e : (TS false k).get 23 q = objV 0 := by
      revert g1 g2
      generalize (TS false k).get 23 q = v
      obtain ⟨o, n⟩ := v
      rintro rfl rfl; rfl
    exact pget_f hM 23 q (by rw [f.sz]; omega) (by omega) (by rw [f.fm]; decide) (objV 0) e
  | true =>
    have hb : (TS true k).isByte 23 q = true := by
      unfold MS.isByte
      rw [f.has, f.fm, f.sz, decide_eq_true (show 0 ≤ (q : Int) ∧ (q : Int) < (k : Int) by omega)]; rfl
    exact pget_b hM 23 q (by rw [f.sz]; omega) (by omega) (by rw [f.fm]; rfl) hb 0 (f.bt rfl q hq)
theorem Goes.of_keep {w w' : World} {F : Nat → Prop} {m : Nat} {S : MS} (h : M w' F m S) (k : Keep F w w') : Goes F m S w w' := ⟨F, h, k, fun _ h => .inl h⟩
/-- it is set -/
theorem reads_set (text : Bool) (k i0 : Nat) (hk : k < 40) (hi : i0 < k) (v : Int) (hv : 0 ≤ v ∧ v ≤ 255) {W0 : World} {F0 : Nat → Prop} {m0 : Nat} (hM0 : M W0 F0 m0 (TS text k)) : ∃ P, Reads P k (fun q => if q = i0 then num v else zeroV text) ∧
    ∀ (W : World) (F : Nat → Prop) (m : Nat), M W F m (TS text k) → Calls Tryz.prog 61 #[.pointer (some ⟨m, 0, none⟩), .agg #[.bool true, .int .i64 23], .agg #[.bool false, .int .i64 ((i0 : Int) + 1)], .agg #[.bool false, .int .i64 v]] W fun e w' => e = .returned (.tuple #[.agg #[.bool false, .int .i64 v], .bool true]) ∧ Goes F m P W w' := by
  have f := tsf text k hk
  have wf : (TS text k).Wf := by obtain ⟨X, h⟩ := hM0; exact h.wf
  have h23 : 0 ≤ (23 : Int) ∧ (23 : Int) < (TS text k).L.length := by rw [f.len]; omega
  cases text with
  | false =>
    have hf : (TS false k).isField 23 i0 = true := by
      unfold MS.isField
      rw [f.has, f.fm, f.sz, decide_eq_true (show 0 ≤ (i0 : Int) ∧ (i0 : Int) < (k : Int) by omega)]; rfl
    have mv : (TS false k).may (num v) = true := MS.fits_small (n := v) (by omega)
    have ok := MS.setOK_of hf mv (.inr f.nc)
    have e := MS.set_put ok
    have g := MS.get_put (v := num v) wf hf
    refine ⟨(TS false k).set 23 i0 (num v), ⟨by rw [e, MS.size_put h23]; exact f.sz, fun u => by rw [e]; exact may_of (fun i => (MS.has_put i).trans (has_TS false k hk i)) u, fun W F m hM q hq => ?_⟩, fun W F m hM => ?_⟩
    · have e2 : ((TS false k).set 23 i0 (num v)).get 23 q = if q = i0 then num v else zeroV false := by
        rw [e, g]
        by_cases hqi : q = i0
        · subst hqi; rw [if_pos ⟨rfl, rfl⟩, if_pos rfl]
        · rw [if_neg (by omega), if_neg hqi]
          obtain ⟨g1, g2⟩ := f.gt rfl q hq
          revert g1 g2
          generalize (TS false k).get 23 q = u
          obtain ⟨o, n⟩ := u
          rintro rfl rfl; rfl
      exact pget_f hM 23 q (by rw [e, MS.size_put h23, f.sz]; omega) (by omega) (by rw [e, MS.fmt_put h23, f.fm]; decide) _ e2
    · exact (pset_f hM 23 (by omega) i0 (by rw [f.sz]; omega) (by omega) false v (by rw [f.fm]; decide) (by rw [f.p1]; decide) ok).mono (fun e w' ⟨a, b, c⟩ => ⟨a, Goes.of_keep b c⟩)
  | true =>
    have hb : ∀ q : Nat, q < k → (TS true k).isByte 23 q = true := fun q hq => by
      unfold MS.isByte
      rw [f.has, f.fm, f.sz, decide_eq_true (show 0 ≤ (q : Int) ∧ (q : Int) < (k : Int) by omega)]; rfl
    refine ⟨(TS true k).putB 23 i0 v, ⟨by rw [MS.size_putB h23]; exact f.sz, fun u => may_of (fun i => (MS.has_putB i).trans (has_TS true k hk i)) u, fun W F m hM q hq => ?_⟩, fun W F m hM => ?_⟩
    · have e2 : byteN (((TS true k).putB 23 i0 v).t 23).B q = if q = i0 then v else 0 := by
        rw [MS.t_putB h23, if_pos rfl]
        show byteN (setB ((TS true k).t 23).B i0 v) q = _
        rw [byteN_setB _ _ _ _ hv (by rw [f.bs rfl]; exact hi) (by rw [f.bs rfl]; exact hq), f.bt rfl q hq]
      have hb2 : ((TS true k).putB 23 i0 v).isByte 23 q = true := by
        have := hb q hq
        unfold MS.isByte at this ⊢
        rw [MS.has_putB, MS.fmt_putB h23, MS.size_putB h23]; exact this
      have r := pget_b hM 23 q (by rw [MS.size_putB h23, f.sz]; omega) (by omega) (by rw [MS.fmt_putB h23, f.fm]; rfl) hb2 _ e2
      by_cases hqi : q = i0
      · rw [if_pos hqi] at r
        simp only [if_pos hqi]; exact r
      · rw [if_neg hqi] at r
        simp only [if_neg hqi]; exact r
    · exact (pset_b hM 23 (by omega) i0 (by rw [f.sz]; omega) (by omega) v hv (by rw [f.fm]; rfl) (hb i0 hi)).mono (fun e w' ⟨a, b, c⟩ => ⟨a, Goes.of_keep b c⟩)
end Go.Proofs.YtnhijjcplnomgaaGreat.World
