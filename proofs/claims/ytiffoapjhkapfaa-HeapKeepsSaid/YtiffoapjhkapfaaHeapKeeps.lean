/-
  The walk of HeapKeeps (chapter 5).
-/
import Derived.Test.YtiffoapjhkapfaaHeapKeepsPlain
import Derived.Test.YtiffoapjhkapfaaHeapLaws
import Derived.Deep.RegionHeld3
import Derived.Deep.DrawnRows
namespace Go.Proofs.Ytiffoapjhkapfaa.Heap
open Go.RowKit Go.Proofs.Ytiffoapjhkapfaa.Plain Go.Proofs.Ytiffoapjhkapfaa.Free
set_option linter.unusedVariables false

/-! ### two slices of numbers under way -/
theorem IntS.hk {w w' : World} {b base : Nat} {v : Value} {zs : List Int} (h : IntS w b v zs) (k : HKp base w w') : IntS w' b v zs :=
  ⟨own_keep h.own k (fun j hj => by
    rintro ⟨_, t, cs, ht, hb⟩
    obtain ⟨_, cs', hc⟩ := ints_own h hj
    exact hb.ne hc (by rintro rfl; revert ht; decide) rfl)⟩
section
variable {ops : Array Oper} {o : Oper} {a : Act} {K : Act → World → Prop} {Q : Exit → Act → World → Prop} {E : Prop}
theorem step_append_int {w : World} (hgd : o.guard = none) (s x : Operand) (ho : o.op = .call { callee := .builtin .append, args := #[s, x], argTypes := #[22, 22] }) (base : Nat) (v : Value) (zs : List Int) (hs : a.eval s = v) (h : IntS w base v zs)
    (ad : Addr) (m c : Nat) (ys : List Int) (hx : a.eval x = .slice (some ad) m c) (hl : ys.length = m) (hy : ∀ j, j < m → w.cell? (ad.add j) = some (.int .i64 (ys.getD j 0))) (hlen : zs.length + m < 1000000) (hbase : base ≤ w.heap.size)
    (hK : ∀ v' w', IntS w' base v' (zs ++ ys) → KI v w w' → (v'.ownBlock = v.ownBlock ∨ v'.ownBlock = some w.heap.size) → K (a.put o.dst v') w') :
    if Region.wanted o (yielded ops a.tmps) = true then Oper.wp Try.prog o a w K Q else E := by
  have hw : Region.wanted o (yielded ops a.tmps) = true := by simp [Region.wanted, hgd]
  rw [if_pos hw]
  obtain ⟨i0, hi0, hz0, hz1, hz2⟩ := info_parts infoI
  obtain ⟨v', w', hr, h2, h3, _, h5⟩ := run_append_own_at (P := Try.prog) w base 22 o.type 3 i0 (.int .i64 0) 1 8 Try.underlying22 hi0 hz0 hz1 hz2 rfl (by decide) v zs.length _ h.own ad m c (ys.map (Value.int .i64)) (by simp [hl]) (by
      intro j u hj
      rw [List.getElem?_map] at hj
      have hjl : j < ys.length := by
        rcases Nat.lt_or_ge j ys.length with h1 | h1
        · exact h1
        · rw [List.getElem?_eq_none h1] at hj; cases hj
      rw [List.getElem?_eq_getElem hjl] at hj
      injection hj with hj
      rw [hy j (by omega), List.getD_eq_getElem?_getD, List.getElem?_eq_getElem hjl, ← hj]; rfl) (by simp [Value.oneCell']) (by unfold maxLen; omega) (by omega) hbase
  unfold Oper.wp execOp
  simp only [ho, resolve, invoke, builtin, Sem.run_bind, Sem.run_pure, Result.andThen_ok, List.map_toArray, List.map_cons, List.map_nil, hs, hx, hr]
  refine hK v' w' ⟨?_⟩ ⟨h3.os, h3.tape, h3.output, h3.size, fun k hk hn => h3.block k hk (fun e => hn e.symm)⟩ h5
  rw [List.length_append, List.map_append, hl]
  exact h2
structure Two (W0 w : World) (u1 u2 : Value) (z1 z2 : List Int) : Prop where
  x : Ext W0 w
  i1 : IntS w W0.heap.size u1 z1
  i2 : IntS w W0.heap.size u2 z2
  ap : Apart u1 u2
theorem Two.start (W0 : World) : Two W0 W0.drew (.slice none 0 0) (.slice none 0 0) [] [] := ⟨(Ext.refl _).drew, IntS.nil _ _, IntS.nil _ _, apart_nil _⟩
theorem Two.symm {W0 w : World} {u1 u2 : Value} {z1 z2 : List Int} (h : Two W0 w u1 u2 z1 z2) : Two W0 w u2 u1 z2 z1 := ⟨h.x, h.i2, h.i1, h.ap.symm⟩
def Rd (W0 : World) (ad : Addr) (ys : List Int) : Prop := ∀ j, j < ys.length → ∃ g o, ad.add j = ⟨g, o, none⟩ ∧ g < W0.heap.size ∧ W0.cell? ⟨g, o, none⟩ = some (.int .i64 (ys.getD j 0))
theorem step_two1 {W0 w : World} {u1 u2 : Value} {z1 z2 : List Int} (s x : Operand) (ho : o.op = .call { callee := .builtin .append, args := #[s, x], argTypes := #[22, 22] }) (hgd : o.guard = none) (hs : a.eval s = u1) (T : Two W0 w u1 u2 z1 z2)
    (ad : Addr) (m c : Nat) (ys : List Int) (hx : a.eval x = .slice (some ad) m c) (hl : ys.length = m) (hy : Rd W0 ad ys) (hlen : z1.length + m < 1000000)
    (hK : ∀ v' w', Two W0 w' v' u2 (z1 ++ ys) z2 → K (a.put o.dst v') w') :
    if Region.wanted o (yielded ops a.tmps) = true then Oper.wp Try.prog o a w K Q else E := by
  refine step_append_int hgd s x ho W0.heap.size u1 z1 hs T.i1 ad m c ys hx hl (fun j hj => ?_) hlen T.x.below.size (fun v' w' h1 h2 h3 => hK v' w' ⟨ki_ext T.x T.i1 (Nat.le_refl _) h2, h1, T.i2.ki h2 T.ap, apart_app T.i2 T.ap h3 (Nat.le_refl _)⟩)
  obtain ⟨g, o', e, hg, hc⟩ := hy j (by omega)
  rw [e]
  exact (T.x.below.cell (p := ⟨g, o', none⟩) hg).trans hc
theorem step_two2 {W0 w : World} {u1 u2 : Value} {z1 z2 : List Int} (s x : Operand) (ho : o.op = .call { callee := .builtin .append, args := #[s, x], argTypes := #[22, 22] }) (hgd : o.guard = none) (hs : a.eval s = u2) (T : Two W0 w u1 u2 z1 z2)
    (ad : Addr) (m c : Nat) (ys : List Int) (hx : a.eval x = .slice (some ad) m c) (hl : ys.length = m) (hy : Rd W0 ad ys) (hlen : z2.length + m < 1000000)
    (hK : ∀ v' w', Two W0 w' u1 v' z1 (z2 ++ ys) → K (a.put o.dst v') w') :
    if Region.wanted o (yielded ops a.tmps) = true then Oper.wp Try.prog o a w K Q else E :=
  step_two1 s x ho hgd hs T.symm ad m c ys hx hl hy hlen (fun v' w' h => hK v' w' h.symm)
end
/-! ### the two parts of a slice -/
def tailAd (g k c : Nat) : Addr := if c = k then ⟨g, 0, none⟩ else ⟨g, k, none⟩
theorem und22 : Try.prog.underlying 22 = some (.slice (Try.prog.elem 22)) := by kernel_rfl
theorem size22 (W : World) : (sizeOf (Try.prog.elem 22)).run Try.prog W = .ok 1 W := by kernel_rfl
theorem slice_to (g n c k : Nat) (hk : k ≤ c) (W : World) : (Instr.sliceAt 22 (.slice (some ⟨g, 0, none⟩) n c) none (some (.int .i64 (k : Int))) none).run Try.prog W = .ok (.slice (some ⟨g, 0, none⟩) k c) W := by
  rw [run_sliceAt_slice (h := und22), run_slice_h (ht := und22) (kh := .i64) (h := (k : Int)) (h0 := by omega) (h2 := by omega), size22]
  simp only [Result.andThen, sliced, Int.toNat_natCast, Nat.sub_zero, Option.map_some, Nat.zero_mul, Addr.add_lit, Nat.add_zero, ite_self]
theorem slice_from (g n c k : Nat) (hk : k ≤ n) (hn : n ≤ c) (W : World) : (Instr.sliceAt 22 (.slice (some ⟨g, 0, none⟩) n c) (some (.int .i64 (k : Int))) none none).run Try.prog W = .ok (.slice (some (tailAd g k c)) (n - k) (c - k)) W := by
  rw [run_sliceAt_slice (h := und22), run_slice_l (ht := und22) (kl := .i64) (l := (k : Int)) (h0 := by omega) (h1 := by omega), size22]
  simp only [Result.andThen, sliced, Int.toNat_natCast, Option.map_some, Nat.mul_one, Addr.add_lit, Nat.zero_add]
  unfold tailAd
  split <;> rfl
theorem rd_to {w : World} {b g n c : Nat} {zs : List Int} (h : IntS w b (.slice (some ⟨g, 0, none⟩) n c) zs) (k : Nat) (hk : k ≤ zs.length) : Rd w ⟨g, 0, none⟩ (zs.take k) := by
  intro j hj
  rw [List.length_take] at hj
  obtain ⟨g', e, _, hg, hc⟩ := h.at_ j (by omega)
  injection e with e
  injection e with e
  subst e
  refine ⟨g, j, by rw [Addr.add_lit, Nat.zero_add], hg, ?_⟩
  rw [hc, List.getD_eq_getElem?_getD, List.getD_eq_getElem?_getD, List.getElem?_take_of_lt (by omega)]
theorem rd_from {w : World} {b g n c : Nat} {zs : List Int} (h : IntS w b (.slice (some ⟨g, 0, none⟩) n c) zs) (k : Nat) (hn : n = zs.length) (hc : n ≤ c) : Rd w (tailAd g k c) (zs.drop k) := by
  intro j hj
  rw [List.length_drop] at hj
  obtain ⟨g', e, _, hg, hcc⟩ := h.at_ (k + j) (by omega)
  injection e with e
  injection e with e
  subst e
  unfold tailAd
  rw [if_neg (by omega)]
  refine ⟨g, k + j, by rw [Addr.add_lit], hg, ?_⟩
  rw [hcc, List.getD_eq_getElem?_getD, List.getD_eq_getElem?_getD, List.getElem?_drop]
end Go.Proofs.Ytiffoapjhkapfaa.Heap
