/-
  Chapter 5's reference (colloquyref05): rows of objects: slices, appends; Drop.
-/
import Derived.Test.YtjpalcejmloocaaRefHeap4
import Derived.Deep.RegionLaw
import Derived.Deep.Upon
namespace Go.Proofs.Ytjpalcejmloocaa.RefHeap
open Go.RowKit Go.Proofs.Ytjpalcejmloocaa.Plain Go.Proofs.Ytjpalcejmloocaa.Free Go.Proofs.Ytjpalcejmloocaa.Heap Go.Proofs.Ytjpalcejmloocaa.RefFree
set_option linter.unusedVariables false
def zeroO : Value := .agg #[.int .i64 0, .int .i64 0, .int .i64 0, .int .i64 0, .int .i64 0, .slice none 0 0, .slice none 0 0, .int .i64 0, .bool false]
theorem infoO : (Try.prog.info? 47).map (fun i => (i.zero, i.size, i.bytes)) = some (some zeroO, 9, 104) := by kernel_rfl
theorem und40 : Try.prog.underlying 40 = some (.slice (Try.prog.elem 40)) := by kernel_rfl
theorem size40 (W : World) : (sizeOf (Try.prog.elem 40)).run Try.prog W = .ok 9 W := by kernel_rfl
def tail9 (g k c : Nat) : Addr := if c = k then ⟨g, 0, none⟩ else ⟨g, k * 9, none⟩
theorem oslice_to (g n c k : Nat) (hk : k ≤ c) (W : World) : (Instr.sliceAt 40 (.slice (some ⟨g, 0, none⟩) n c) none (some (.int .i64 (k : Int))) none).run Try.prog W = .ok (.slice (some ⟨g, 0, none⟩) k c) W := by
  rw [run_sliceAt_slice (h := und40), run_slice_h (ht := und40) (kh := .i64) (h := (k : Int)) (h0 := by omega) (h2 := by omega), size40]
  simp only [Result.andThen, sliced, Int.toNat_natCast, Nat.sub_zero, Option.map_some, Nat.zero_mul, Addr.add_lit, Nat.add_zero, ite_self]
theorem oslice_from (g n c k : Nat) (hk : k ≤ n) (hn : n ≤ c) (W : World) : (Instr.sliceAt 40 (.slice (some ⟨g, 0, none⟩) n c) (some (.int .i64 (k : Int))) none none).run Try.prog W = .ok (.slice (some (tail9 g k c)) (n - k) (c - k)) W := by
  rw [run_sliceAt_slice (h := und40), run_slice_l (ht := und40) (kl := .i64) (l := (k : Int)) (h0 := by omega) (h1 := by omega), size40]
  simp only [Result.andThen, sliced, Int.toNat_natCast, Option.map_some, Addr.add_lit, Nat.zero_add]
  unfold tail9
  split <;> rfl
/-- m objects' cells, to be read from there -/
structure SrcO (w : World) (A : Option Addr) (m : Nat) (ys : List Value) : Prop where
  len : ys.length = m * 9
  rd : (A = none ∧ m = 0) ∨ ∃ ad, A = some ad ∧ ∀ j u, ys[j]? = some u → ∃ g o, ad.add j = ⟨g, o, none⟩ ∧ g < w.heap.size ∧ w.cell? ⟨g, o, none⟩ = some u
  one : ∀ u ∈ ys, u.oneCell' = true
theorem SrcO.ext {w w' : World} {A : Option Addr} {m : Nat} {ys : List Value} (h : SrcO w A m ys) (x : Ext w w') : SrcO w' A m ys := by
  refine ⟨h.len, ?_, h.one⟩
  rcases h.rd with e | ⟨ad, e, hr⟩
  · exact .inl e
  · refine .inr ⟨ad, e, fun j u hj => ?_⟩
    obtain ⟨g, o, e1, hg, hc⟩ := hr j u hj
    exact ⟨g, o, e1, Nat.lt_of_lt_of_le hg x.below.size, (x.below.cell (p := ⟨g, o, none⟩) hg).trans hc⟩
/-- a row of the call's own -/
structure OneO (W0 w : World) (v : Value) (n : Nat) (xs : List Value) : Prop where
  x : Ext W0 w
  own : w.ownsRow W0.heap.size 47 9 v n xs
theorem OneO.nil (W0 w : World) (x : Ext W0 w) : OneO W0 w (.slice none 0 0) 0 [] := ⟨x, World.ownsRow_nil _ _ _ _⟩
theorem OneO.ext {W0 w w' : World} {v : Value} {n : Nat} {xs : List Value} (h : OneO W0 w v n xs) (x : Ext w w') : OneO W0 w' v n xs := ⟨h.x.trans x, own_keep h.own (Keep.of_ext x (fun _ => False)) (fun _ _ h => h)⟩
theorem run_append_O {W0 w : World} {v : Value} {n m c : Nat} {xs ys : List Value} {A : Option Addr} (ty : TypeId) (T : OneO W0 w v n xs) (S : SrcO w A m ys) (hn : n + m < 1000000) :
    ∃ v' w', (Builtin.append_ #[40, 40] ty #[v, .slice A m c]).run Try.prog w = .ok v' w' ∧ OneO W0 w' v' (n + m) (xs ++ ys) := by
  obtain ⟨i0, hi0, hz0, hz1, hz2⟩ := info_parts infoO
  rcases S.rd with ⟨rfl, rfl⟩ | ⟨ad, rfl, hr⟩
  · obtain ⟨A1, c1, rfl, b1, b2⟩ := own_form T.own
    have hy : ys = [] := List.eq_nil_of_length_eq_zero (by rw [S.len])
    refine ⟨_, w, run_append_nothing w _ _ ty _ i0 Try.underlying40 hi0 A1 n c1 b1 _ (Src.ofNil _ Try.underlying40 c), ?_⟩
    rw [hy, List.append_nil]; exact T
  · obtain ⟨v', w', h1, h2, h3, _, h5⟩ := run_append_own_at (P := Try.prog) w W0.heap.size 40 ty 47 i0 zeroO 9 104 Try.underlying40 hi0 hz0 hz1 hz2 rfl (by decide) v n xs T.own ad m c ys S.len (fun j u hj => by
      obtain ⟨g, o, e, hg, hc⟩ := hr j u hj
      rw [e]; exact hc) S.one (by unfold maxLen; omega) (by omega) T.x.below.size
    exact ⟨v', w', h1, own_ext T.x T.own ⟨h3.os, h3.tape, h3.output, h3.size, fun k hk hn => h3.block k hk (fun e => hn e.symm)⟩, h2⟩
section
variable {ops : Array Oper} {o : Oper} {a : Act} {K : Act → World → Prop} {Q : Exit → Act → World → Prop} {E : Prop}
theorem step_O {W0 w : World} {v : Value} {n m c : Nat} {xs ys : List Value} {A : Option Addr} (s x : Operand) (ho : o.op = .call { callee := .builtin .append, args := #[s, x], argTypes := #[40, 40] }) (hgd : o.guard = none) (hs : a.eval s = v) (hx : a.eval x = .slice A m c) (T : OneO W0 w v n xs) (S : SrcO w A m ys) (hn : n + m < 1000000)
    (hK : ∀ v' w', OneO W0 w' v' (n + m) (xs ++ ys) → K (a.put o.dst v') w') :
    if Region.wanted o (yielded ops a.tmps) = true then Oper.wp Try.prog o a w K Q else E := by
  have hw : Region.wanted o (yielded ops a.tmps) = true := by simp [Region.wanted, hgd]
  rw [if_pos hw]
  obtain ⟨v', w', hr, h2⟩ := run_append_O (c := c) o.type T S hn
  unfold Oper.wp execOp
  simp only [ho, resolve, invoke, builtin, Sem.run_bind, Sem.run_pure, Result.andThen_ok, List.map_toArray, List.map_cons, List.map_nil, hs, hx, hr]
  exact hK v' w' h2
theorem wpList_append_O {rest : List Oper} {W0 w : World} {v : Value} {n m c : Nat} {xs ys : List Value} {A : Option Addr} (hgd : o.guard = none) (s x : Operand) (ho : o.op = .call { callee := .builtin .append, args := #[s, x], argTypes := #[40, 40] }) (hs : a.eval s = v) (hx : a.eval x = .slice A m c) (T : OneO W0 w v n xs) (S : SrcO w A m ys) (hn : n + m < 1000000)
    (hK : ∀ v' w', OneO W0 w' v' (n + m) (xs ++ ys) → wpList Try.prog ops Q rest (a.put o.dst v') w') : wpList Try.prog ops Q (o :: rest) a w :=
  wpList_plain hgd fun _ hK2 => by
    obtain ⟨v', w', hr, h2⟩ := run_append_O (c := c) o.type T S hn
    unfold Oper.wp execOp
    simp only [ho, resolve, invoke, builtin, Sem.run_bind, Sem.run_pure, Result.andThen_ok, List.map_toArray, List.map_cons, List.map_nil, hs, hx, hr]
    exact hK2 _ _ (hK v' w' h2)
end
theorem cellsO_one (q : QO) (hF : q.vF.oneCell' = true) (hB : q.vB.oneCell' = true) : ∀ u ∈ cellsO q, u.oneCell' = true := by
  intro u hu
  simp only [cellsO, List.mem_cons, List.not_mem_nil, or_false] at hu
  rcases hu with rfl | rfl | rfl | rfl | rfl | rfl | rfl | rfl | rfl <;> first | rfl | assumption
section
variable {w w' w2 : World} {h f ib base n : Nat} {vL : Value} {Q Q' A B : List QO} {q : QO} {is is' : List Bool} {at_ : Int}
theorem HAt.one (H : HAt w h f ib base n vL Q is) : ∀ u ∈ rowO Q, u.oneCell' = true := by
  intro u hu
  obtain ⟨q, hq, hu⟩ := List.mem_flatMap.1 hu
  obtain ⟨AF, cF, eF, _, _⟩ := own_form (H.fs q hq)
  obtain ⟨AB, cB, eB, _, _⟩ := own_form (H.bs q hq)
  exact cellsO_one q (by rw [eF]; rfl) (by rw [eB]; rfl) u hu
/-- the two parts of its list, behind one another -/
theorem HAt.srcs (H : HAt w h f ib base n vL (A ++ B) is) {g cap : Nat} (hv : vL = .slice (some ⟨g, 0, none⟩) (A ++ B).length cap) : SrcO w (some ⟨g, 0, none⟩) A.length (rowO A) ∧ SrcO w (some (tail9 g A.length cap)) B.length (rowO B) := by
  have one := H.one
  rw [rowO_app] at one
  have rd : ∀ k u, (rowO A ++ rowO B)[k]? = some u → g < w.heap.size ∧ w.cell? ⟨g, k, none⟩ = some u := by
    intro k u hu
    have hne : 0 < (A ++ B).length := by
      rcases Nat.eq_zero_or_pos (A ++ B).length with h0 | h0
      · have : (A ++ B) = [] := List.eq_nil_of_length_eq_zero h0
        rw [← rowO_app, this] at hu; cases hu
      · exact h0
    obtain ⟨g', cap', e, _, hg, _, _, _, hc⟩ := own_cell H.row hne
    rw [hv] at e
    injection e with e
    injection e with e
    injection e with e _ _
    subst e
    exact ⟨hg, hc k u (by rw [rowO_app]; exact hu)⟩
  refine ⟨⟨rowO_len A, .inr ⟨_, rfl, fun j u hj => ?_⟩, fun u hu => one u (List.mem_append_left _ hu)⟩, ⟨rowO_len B, .inr ⟨_, rfl, fun j u hj => ?_⟩, fun u hu => one u (List.mem_append_right _ hu)⟩⟩
  · have hj2 : j < (rowO A).length := by
      rcases Nat.lt_or_ge j (rowO A).length with h1 | h1
      · exact h1
      · rw [List.getElem?_eq_none h1] at hj; cases hj
    obtain ⟨hg, hc⟩ := rd j u (by rw [List.getElem?_append_left hj2]; exact hj)
    exact ⟨g, j, by rw [Addr.add_lit, Nat.zero_add], hg, hc⟩
  · have hj2 : j < (rowO B).length := by
      rcases Nat.lt_or_ge j (rowO B).length with h1 | h1
      · exact h1
      · rw [List.getElem?_eq_none h1] at hj; cases hj
    obtain ⟨hg, hc⟩ := rd (A.length * 9 + j) u (by rw [List.getElem?_append_right (by rw [rowO_len]; omega), rowO_len, show A.length * 9 + j - A.length * 9 = j by omega]; exact hj)
    have hcap : ¬ cap = A.length := by
      intro e
      obtain ⟨g', cap', e2, _, _, h3, _⟩ := own_cell H.row (by rw [List.length_append]; rw [rowO_len] at hj2; omega)
      rw [hv] at e2
      injection e2 with _ _ e2
      rw [List.length_append] at h3
      rw [rowO_len] at hj2
      omega
    exact ⟨g, A.length * 9 + j, by unfold tail9; rw [if_neg hcap, Addr.add_lit], hg, hc⟩
/-- what is free has turned -/
theorem HAt.free (H : HAt w h f ib base n vL Q is) (k : Keep (· = ib) w w') (F : FS w' f ib n is') : HAt w' h f ib base n vL Q is' ∧ RK base w w' := by
  have ok : ∀ {e : TypeId} {sz m : Nat} {v : Value} {xs : List Value}, e ≠ 4 → w.ownsRow base e sz v m xs → w'.ownsRow base e sz v m xs := fun he ho => own_keep ho k (fun g hg hS => by
    obtain ⟨_, cs, b2⟩ := own_blk ho hg
    subst hS
    exact H.fr.bs.ne b2 (Ne.symm he) rfl)
  exact ⟨⟨H.blk.keep k (H.blk.ne H.fr.bs (by decide)), ok (by decide) H.row, F, fun p hp => ok (by decide) (H.fs p hp), fun p hp => ok (by decide) (H.bs p hp), H.apF, H.apB, H.lo, H.few⟩, RK.one H.lo.2.2 H.fr.bs (by decide) k⟩
/-- its list is another one -/
theorem HAt.relist {v' : Value} (H : HAt w h f ib base n vL Q is) (x : Ext w w2) (own : w2.ownsRow w.heap.size 47 9 v' Q'.length (rowO Q')) (hf : ∀ p ∈ Q', w2.ownsRow base 28 1 p.vF p.o.F.length (p.o.F.map (Value.int .u32))) (hb : ∀ p ∈ Q', w2.ownsRow base 5 1 p.vB p.o.B.length (p.o.B.map (Value.int .u8)))
    (apF : Q'.Pairwise (fun a b => ∀ k, a.vF.ownBlock = some k → b.vF.ownBlock ≠ some k)) (apB : Q'.Pairwise (fun a b => ∀ k, a.vB.ownBlock = some k → b.vB.ownBlock ≠ some k)) (few : Q'.length ≤ 100) : HAt (w2.setCell ⟨h, 0, none⟩ v') h f ib base n v' Q' is ∧ RK base w (w2.setCell ⟨h, 0, none⟩ v') := by
  have k : Keep (· = h) w2 (w2.setCell ⟨h, 0, none⟩ v') := (Keep.refl (· = h) w2).setCell (p := ⟨h, 0, none⟩) rfl v'
  have H2 := H.ext x
  have ok : ∀ {e : TypeId} {b0 sz m : Nat} {v : Value} {xs : List Value}, e ≠ 43 → w2.ownsRow b0 e sz v m xs → (w2.setCell ⟨h, 0, none⟩ v').ownsRow b0 e sz v m xs := fun he ho => own_keep ho k (fun g hg hS => by
    obtain ⟨_, cs, b2⟩ := own_blk ho hg
    subst hS
    exact H2.blk.ne b2 (Ne.symm he) rfl)
  have hbase : base ≤ w.heap.size := by have := H.lo.1; have := H.blk.lt; omega
  have row : (w2.setCell ⟨h, 0, none⟩ v').ownsRow base 47 9 v' Q'.length (rowO Q') := by
    have o := ok (by decide) own
    refine ⟨o.1, ?_⟩
    rcases o.2 with hn | ⟨g, cap, cur, e, hb, rest⟩
    · exact .inl hn
    · exact .inr ⟨g, cap, cur, e, by omega, rest⟩
  exact ⟨⟨H2.blk.set 0 v', row, H2.fr.keep k (H2.fr.blk.ne H2.blk (by decide)) (H2.fr.bs.ne H2.blk (by decide)), fun p hp => ok (by decide) (hf p hp), fun p hp => ok (by decide) (hb p hp), apF, apB, H.lo, few⟩, (RK.of_ext x).trans (RK.one H.lo.1 H2.blk (by decide) k)⟩
end
end Go.Proofs.Ytjpalcejmloocaa.RefHeap
