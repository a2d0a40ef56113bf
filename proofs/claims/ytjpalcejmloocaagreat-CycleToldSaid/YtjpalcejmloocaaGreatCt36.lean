/-
  Cyc8, Cyc9, as one text (a claim has at most 60 files).
-/
import Derived.Test.YtjpalcejmloocaaGreatCt33
import Derived.Test.YtjpalcejmloocaaGreatCt35
namespace Go.Proofs.YtjpalcejmloocaaGreat.World
open Go.RowKit Go.Proofs.YtjpalcejmloocaaGreat.Plain
set_option linter.unusedVariables false
attribute [local go_sem ↓] Go.wp_at_zero Go.wp_at_succ
section
variable {w w' w2 : World} {F F' F2 : Nat → Prop} {m : Nat} {S S' : MS} {X : MX}
/-- what a collection asks, its blocks known -/
structure ClX (w : World) (m : Nat) (F : Nat → Prop) (S : MS) (X : MX) : Prop where
  c0 : w.cell? ⟨m, 0, none⟩ = some (.iface 70 (.pointer (some ⟨X.bt, 0, none⟩)))
  c13 : w.cell? ⟨m, 13, none⟩ = some (.pointer (some ⟨X.sb, 0, none⟩))
  c14 : w.cell? ⟨m, 14, none⟩ = some X.li
  c5 : w.cell? ⟨m, 5, none⟩ = some X.du
  lt : m < w.heap.size
  fz : ∀ i, w.frozen? ⟨m, i, none⟩ = false
  has : ∀ W [IsExt w W], ∀ i, Calls Tryz.prog 174 #[.pointer (some ⟨X.bt, 0, none⟩), .int .i64 i] W fun e w' => e = .returned (.bool (S.has i)) ∧ Ext W w'
  colour : ∀ W [IsExt w W], ∀ i, Calls Tryz.prog 170 #[.pointer (some ⟨X.bt, 0, none⟩), .int .i64 i] W fun e w' => e = .returned (.int .i64 (S.colour i)) ∧ Ext W w'
  final : ∀ W [IsExt w W], ∀ i, Calls Tryz.prog 172 #[.pointer (some ⟨X.bt, 0, none⟩), .int .i64 i] W fun e w' => e = .returned (.bool (S.final i)) ∧ Ext W w'
  paint : ∀ W [IsExt w W], ∀ i c : Int, 0 ≤ i → i < S.L.length → Calls Tryz.prog 179 #[.pointer (some ⟨X.bt, 0, none⟩), .int .i64 i, .int .i64 c] W fun e w' => e = .returned (.tuple #[]) ∧ MemAt w' F m (S.paint i c) X ∧ Keep F W w'
  sweep : ∀ W [IsExt w W], ∀ i : Int, 0 ≤ i → i < S.L.length → Calls Tryz.prog 187 #[.pointer (some ⟨X.bt, 0, none⟩), .int .i64 i] W fun e w' => e = .returned (.tuple #[]) ∧ MemAt w' F m (S.paint i 0) X ∧ Keep F W w'
  kill : ∀ W [IsExt w W], ∀ i : Int, 0 ≤ i → i < S.L.length → Calls Tryz.prog 176 #[.pointer (some ⟨X.bt, 0, none⟩), .int .i64 i] W fun e w' => e = .returned (.tuple #[]) ∧ MemAt w' F m (S.kill i) X ∧ Keep F W w'
  setFin : ∀ W [IsExt w W], ∀ (i : Int) (b : Bool), 0 ≤ i → i < S.L.length → Calls Tryz.prog 183 #[.pointer (some ⟨X.bt, 0, none⟩), .int .i64 i, .bool b] W fun e w' => e = .returned (.tuple #[]) ∧ MemAt w' F m (S.setFin i b) X ∧ Keep F W w'
  push : ∀ W [IsExt w W], ∀ v : Int, Calls Tryz.prog 65 #[.pointer (some ⟨X.sb, 0, none⟩), .int .i64 v] W fun e w' => e = .returned (.bool (decide (S.stk.length < S.most))) ∧ MemAt w' F m (S.pushG v) X ∧ Keep F W w'
theorem MemAt.clx (h : MemAt w F m S X) : ClX w m F S X := by
  obtain ⟨q1, q2, q3⟩ := h.bm.rules
  have b1 := h.wf.len
  have b2 := h.wf.last
  have b3 := h.wf.dead
  have b4 := h.wf.col
  have kF : ∀ {v : Value} {W w' : World}, InF F v → Keep (fun g => v.ownBlock = some g) W w' → Keep F W w' := fun hv k => k.mono (fun g hg => hv g hg)
  have kS : ∀ {W w' : World}, Keep (· = X.sb) W w' → Keep F W w' := fun k => k.mono (fun g hg => by subst hg; exact h.sF)
  refine ⟨q1 0, q1 13, q1 14, q1 5, q3, q2, fun W x i => thas (h.ext x.out).ts h.wf i, fun W x i => tcolour (h.ext x.out).ts h.wf i, fun W x i => tfinal (h.ext x.out).ts h.wf i, fun W x i c h0 h1 => ?_, fun W x i h0 h1 => ?_, fun W x i h0 h1 => ?_, fun W x i b h0 h1 => ?_, fun W x v => ?_⟩
  · obtain ⟨k, rfl⟩ := Int.eq_ofNat_of_zero_le h0
    refine (tpaint (h.ext x.out).ts k c (by omega) (by omega)).mono ?_
    rintro e w' ⟨rfl, t', K⟩
    exact ⟨rfl, (h.ext x.out).turnCol t' K (MS.paint_wf h.wf _ _) ⟨rfl, rfl, rfl, rfl, rfl, rfl, rfl, rfl⟩, kF h.ts.colF K⟩
  · obtain ⟨k, rfl⟩ := Int.eq_ofNat_of_zero_le h0
    refine (tsweep (h.ext x.out).ts k (by omega) (by omega)).mono ?_
    rintro e w' ⟨rfl, t', K⟩
    exact ⟨rfl, (h.ext x.out).turnCol t' K (MS.paint_wf h.wf _ _) ⟨rfl, rfl, rfl, rfl, rfl, rfl, rfl, rfl⟩, kF h.ts.colF K⟩
  · obtain ⟨k, rfl⟩ := Int.eq_ofNat_of_zero_le h0
    refine (tkill (h.ext x.out).ts k (by omega) (by omega)).mono ?_
    rintro e w' ⟨rfl, t', K⟩
    have kt : KT [4] W w' := K.mono (fun g hg => by
      obtain ⟨_, cs, b⟩ := (h.ext x.out).ts.dead.block hg
      exact ⟨_, cs, List.mem_singleton.2 rfl, b⟩)
    exact ⟨rfl, (h.ext x.out).turn t' kt (MS.kill_wf h.wf _) ⟨rfl, rfl, rfl, rfl, rfl, rfl, rfl, rfl⟩ (by decide) (by decide) (by decide) (by decide) (by decide), kF h.ts.dF K⟩
  · obtain ⟨k, rfl⟩ := Int.eq_ofNat_of_zero_le h0
    refine (tsetfin (h.ext x.out).ts k b (by omega) (by omega)).mono ?_
    rintro e w' ⟨rfl, t', K⟩
    have kt : KT [49] W w' := K.mono (fun g hg => by
      obtain ⟨_, cs, b⟩ := (h.ext x.out).ts.L.block hg
      exact ⟨_, cs, List.mem_singleton.2 rfl, b⟩)
    exact ⟨rfl, (h.ext x.out).turn t' kt (MS.setFin_wf h.wf ⟨h0, h1⟩ _) ⟨rfl, rfl, rfl, rfl, rfl, rfl, rfl, rfl⟩ (by decide) (by decide) (by decide) (by decide) (by decide), kF h.ts.LF K⟩
  · by_cases hl : S.stk.length < S.most
    · refine (Grey.push_y (h.ext x.out).st hl v).mono ?_
      rintro e w' ⟨rfl, st, K⟩
      refine ⟨by rw [decide_eq_true hl], ?_, kS K⟩
      have q := (h.ext x.out).stack st K
      unfold MS.pushG
      rw [if_pos hl]; exact q
    · refine (Grey.push_n (h.ext x.out).st hl v).mono ?_
      rintro e w' ⟨rfl, st, K⟩
      refine ⟨by rw [decide_eq_false hl], ?_, kS K⟩
      have q := (h.ext x.out).stack st K
      unfold MS.pushG
      rw [if_neg hl]; exact q
set_option maxRecDepth 100000 in
set_option maxHeartbeats 1000000 in
theorem xshade (h : MemAt w F m S X) (i : Int) : Calls Tryz.prog 43 #[.pointer (some ⟨m, 0, none⟩), .int .i64 i] w fun e w' => e = .returned (.tuple #[]) ∧ MemAt w' F m (S.shade i) X ∧ Keep F w w' := by
  have C := h.clx
  have c0 := C.c0
  have lt := C.lt
  have C1 := Lib.hid (fun W [IsExt w W] => C.has W i)
  have C2 := Lib.hid (fun W [IsExt w W] => C.colour W i)
  have HI : Hid (S.has i = true → 0 ≤ i ∧ i < S.L.length) := Lib.hid MS.has_lt
  have C3 := Lib.hid (fun W [IsExt w W] => C.paint W i 1)
  have E : Hid (S.shade i = if S.has i && decide (S.colour i = 0) then (S.paint i 1).pushG i else S) := Lib.hid rfl
  have HH := Lib.hid h
  clear C h
  cases ha : S.has i with
  | false =>
    rw [ha, Bool.false_and, if_neg (by decide)] at E
    rw [ha] at C1
    clear ha C2 C3 HI
    go_enter Tryz.func43, Tryz.ntmps43
    go_wp2_with (first | (go_at_call 174; refine (C1.out _).mono ?_; rintro e w2 ⟨rfl, x2⟩; obtain ⟨y, rfl⟩ := x2))
    go_end0
    exact ⟨rfl, by rw [E.out]; exact HH.out.ext (is_ext _ _), Keep.of_ext (is_ext _ _) _⟩
  | true =>
    rw [ha, Bool.true_and] at E
    obtain ⟨h0, h1⟩ := HI.out ha
    rw [ha] at C1
    replace C3 := Lib.hid (fun W [IsExt w W] => C3.out W h0 h1)
    clear ha HI h0 h1
    generalize hc : S.colour i = cc at *
    clear hc
    by_cases h2 : cc = 0
    · subst h2
      rw [decide_eq_true rfl, if_pos rfl] at E
      go_enter Tryz.func43, Tryz.ntmps43
      go_wp2_with (first | (go_at_call 174; refine (C1.out _).mono ?_; rintro e w2 ⟨rfl, x2⟩; obtain ⟨y, rfl⟩ := x2) | (go_at_call 170; refine (C2.out _).mono ?_; rintro e w2 ⟨rfl, x2⟩; obtain ⟨y, rfl⟩ := x2))
      refine calls_name (fun W hW => ?_)
      have hx : IsExt w W := ⟨by rw [hW]; exact is_ext _ _⟩
      clear hW
      refine (C3.out W).mono ?_
      rintro e w2 ⟨rfl, m2, k2⟩
      have D := m2.clx
      have K2 := Lib.hid ((Keep.of_ext hx.out F).trans k2)
      have P := Lib.hid (fun W [IsExt w2 W] => D.push W i)
      clear c0 lt hx m2 k2 C1 C2 C3 HH
      have c0 := D.c13
      have lt := D.lt
      clear D
      go_wp2_with fail
      refine calls_name (fun W hW => ?_)
      have hx : IsExt w2 W := ⟨by rw [hW]; exact is_ext _ _⟩
      clear hW
      refine (P.out W).mono ?_
      rintro e w3 ⟨rfl, m3, k3⟩
      have M3 := Lib.hid m3
      have K3 := Lib.hid (K2.out.trans ((Keep.of_ext hx.out F).trans k3))
      clear m3 k3 hx P K2 c0 lt
      go_wp2_with fail
      go_end0
      exact ⟨rfl, by rw [E.out]; exact M3.out, K3.out⟩
    · have e2 : (cc == 0) = false := beq_eq_false_iff_ne.2 h2
      rw [decide_eq_false h2, if_neg (by decide)] at E
      clear h2 C3
      go_enter Tryz.func43, Tryz.ntmps43
      go_wp2_with (first | (go_at_call 174; refine (C1.out _).mono ?_; rintro e w2 ⟨rfl, x2⟩; obtain ⟨y, rfl⟩ := x2) | (go_at_call 170; refine (C2.out _).mono ?_; rintro e w2 ⟨rfl, x2⟩; obtain ⟨y, rfl⟩ := x2))
      go_end0
      exact ⟨rfl, by rw [E.out]; exact HH.out.ext (is_ext _ _), Keep.of_ext (is_ext _ _) _⟩
/-! ### more blocks are its own -/
theorem InF.more {v : Value} (h : InF F v) (hF : ∀ k, F k → F' k) : InF F' v := fun k hk => hF k (h k hk)
theorem MemAt.more (h : MemAt w F m S X) (hF : ∀ k, F k → F' k) (hl : ∀ k, F' k → k < w.heap.size) : MemAt w F' m S X :=
  ⟨⟨h.ts.bt, hF _ h.ts.bF, h.ts.L, h.ts.LF.more hF, h.ts.fs, fun i hi => (h.ts.fF i hi).more hF, h.ts.ap, h.ts.dead, h.ts.dF.more hF, h.ts.col, h.ts.colF.more hF⟩, h.bm, hF _ h.mF, hl, h.wf, h.R, ⟨h.rF.1.more hF, h.rF.2.1.more hF, h.rF.2.2.1.more hF, h.rF.2.2.2.more hF⟩, h.ac, h.st, hF _ h.sF, h.li, ⟨h.lF.1.more hF, h.lF.2⟩, h.lT⟩
/-- the phase turned -/
theorem MemAt.setPhase (h : MemAt w F m S X) (p : Int) : MemAt (w.setCell ⟨m, 12, none⟩ (.int .i64 p)) F m { S with phase := p } X ∧ Keep F w (w.setCell ⟨m, 12, none⟩ (.int .i64 p)) := by
  have K : Keep (· = m) w (w.setCell ⟨m, 12, none⟩ (.int .i64 p)) := (Keep.refl (· = m) w).setCell (p := ⟨m, 12, none⟩) rfl _
  have kt : KT [56] w (w.setCell ⟨m, 12, none⟩ (.int .i64 p)) := K.mono (fun j e => by subst e; exact ⟨_, _, List.mem_singleton.2 rfl, h.bm⟩)
  have b := h.bm.set 12 (.int .i64 p)
  refine ⟨⟨(h.ts.kt kt (by decide) (by decide) (by decide) (by decide) (by decide)).same rfl rfl rfl, b, h.mF, fun j hj => Nat.lt_of_lt_of_le (h.lt j hj) K.size, h.wf.same rfl rfl rfl rfl, h.R.kt kt (by decide) (by decide) (by decide), h.rF, h.ac, stk_kt h.st kt (by decide), h.sF, Row.kt h.li h.lT kt (by decide), h.lF, h.lT.kt kt (by decide)⟩, K.mono (fun j e => by subst e; exact h.mF)⟩
/-- its list laid anew: a row in new memory -/
theorem MemAt.setList {v : Value} {l : List Int} {b : Nat} (h : MemAt w F m S X) (hb : ∀ k, F k → k < b) (hv : OwnI w b v l) : MemAt (w.setCell ⟨m, 14, none⟩ v) (fun k => F k ∨ v.ownBlock = some k) m { S with lst := l } { X with li := v } := by
  have K : Keep (· = m) w (w.setCell ⟨m, 14, none⟩ v) := (Keep.refl (· = m) w).setCell (p := ⟨m, 14, none⟩) rfl _
  have kt : KT [56] w (w.setCell ⟨m, 14, none⟩ v) := K.mono (fun j e => by subst e; exact ⟨_, _, List.mem_singleton.2 rfl, h.bm⟩)
  have bb := h.bm.set 14 v
  have far : ∀ {u : Value}, InF F u → Apart u v := fun hu k h1 h2 => by
    have a := hb k (hu k h1)
    have c := (hv.own.block h2).1
    omega
  have ty : Typ w v 3 := fun k hk => by obtain ⟨_, cs, q⟩ := hv.own.block hk; exact ⟨cs, q⟩
  have hm := h.more (F' := fun k => F k ∨ v.ownBlock = some k) (fun k hk => .inl hk) (fun k hk => by
    rcases hk with hk | hk
    · exact h.lt k hk
    · obtain ⟨cs, q⟩ := ty k hk; exact q.lt)
  exact ⟨(hm.ts.kt kt (by decide) (by decide) (by decide) (by decide) (by decide)).same rfl rfl rfl |> fun t => ⟨t.bt, t.bF, t.L, t.LF, t.fs, t.fF, t.ap, t.dead, t.dF, t.col, t.colF⟩, bb, hm.mF, fun j hj => Nat.lt_of_lt_of_le (hm.lt j hj) K.size, h.wf.same rfl rfl rfl rfl, h.R.kt kt (by decide) (by decide) (by decide), hm.rF, h.ac, stk_kt h.st kt (by decide), hm.sF, Row.kt hv.ints ty kt (by decide), ⟨fun k hk => .inr hk, far h.ts.colF, far h.rF.1, far h.rF.2.2.1⟩, ty.kt kt (by decide)⟩
end
end Go.Proofs.YtjpalcejmloocaaGreat.World
namespace Go.Proofs.YtjpalcejmloocaaGreat.World
open Go.RowKit Go.Proofs.YtjpalcejmloocaaGreat.Plain
set_option linter.unusedVariables false
def MS.addDue (S : MS) (i : Int) : MS := { S with R := { S.R with due := S.R.due ++ [i] } }
section
variable {w w' w2 w6 : World} {F F' F2 : Nat → Prop} {m : Nat} {S S' : MS} {X : MX}
theorem MemAt.addDue {gg cc : Nat} {i : Int} (h : MemAt w F m S X) (g : w.grownBy w6 X.du.ownBlock) (hat : X.du.ownBlock = some gg ∨ w.heap.size ≤ gg) (o : w6.ownsRow 0 3 1 (.slice (some ⟨gg, 0, none⟩) (S.R.due.length + 1) cc) (S.R.due.length + 1) (S.R.due.map (Value.int .i64) ++ [.int .i64 i])) :
    MemAt (w6.setCell ⟨m, 5, none⟩ (.slice (some ⟨gg, 0, none⟩) (S.R.due.length + 1) cc)) (fun k => F k ∨ k = gg) m (S.addDue i) { X with du := .slice (some ⟨gg, 0, none⟩) (S.R.due.length + 1) cc } ∧ Keep (fun k => F k ∨ k = gg) w (w6.setCell ⟨m, 5, none⟩ (.slice (some ⟨gg, 0, none⟩) (S.R.due.length + 1) cc)) := by
  have K1 : Keep (fun k => X.du.ownBlock = some k) w w6 := ⟨g.os, g.tape, g.output, g.size, fun k hk hn => g.block k hk (fun e => hn e.symm)⟩
  obtain ⟨u, hu⟩ : ∃ u, (.slice (some ⟨gg, 0, none⟩) (S.R.due.length + 1) cc : Value) = u := ⟨_, rfl⟩
  have ou : u.ownBlock = some gg := by rw [← hu]; rfl
  have K2 : Keep (· = m) w6 (w6.setCell ⟨m, 5, none⟩ u) := (Keep.refl (· = m) w6).setCell (p := ⟨m, 5, none⟩) rfl _
  rw [hu] at o ⊢
  have K : Keep (fun k => X.du.ownBlock = some k ∨ k = m) w (w6.setCell ⟨m, 5, none⟩ u) := (K1.mono (fun k hk => .inl hk)).trans (K2.mono (fun k hk => .inr hk))
  have nT : ∀ {e : TypeId} {v : Value} {b n sz : Nat} {c : Nat → Nat → Value}, Own w b e v n sz c → e ≠ 3 → e ≠ 56 → ∀ j, v.ownBlock = some j → ¬ (X.du.ownBlock = some j ∨ j = m) := by
    rintro e v b n sz c ho h1 h2 j hj (hh | rfl)
    · exact own_ne ho h.R.du h1 hj hh
    · exact own_blk_ne ho h.bm h2 hj
  have nB : ∀ {t : TypeId} {k : Nat} {cs : Array Value}, Blk w k t cs → t ≠ 3 → t ≠ 56 → ¬ (X.du.ownBlock = some k ∨ k = m) := by
    rintro t k cs hb h1 h2 (hh | rfl)
    · exact own_blk_ne h.R.du hb (fun e => h1 e.symm) hh
    · exact hb.ne h.bm h2 rfl
  have nI : ∀ {v : Value} {b n sz : Nat} {c : Nat → Nat → Value}, Own w b 3 v n sz c → Apart v X.du → ∀ j, v.ownBlock = some j → ¬ (X.du.ownBlock = some j ∨ j = m) := by
    rintro v b n sz c ho ha j hj (hh | rfl)
    · exact ha j hj hh
    · exact own_blk_ne ho h.bm (by decide) hj
  have nm : ¬ X.du.ownBlock = some m := fun hh => own_blk_ne h.R.du h.bm (by decide) hh
  have bb := (h.bm.keep K1 nm).set 5 u
  have og : ∀ {v : Value}, Apart v X.du → (∀ j, v.ownBlock = some j → j < w.heap.size) → Apart v u := fun ha hl j h1 h2 => by
    rw [ou] at h2
    injection h2 with h2
    subst h2
    rcases hat with h3 | h3
    · exact ha _ h1 h3
    · have := hl _ h1; omega
  have lF : ∀ {v : Value}, InF F v → ∀ j, v.ownBlock = some j → j < w.heap.size := fun hv j hj => h.lt j (hv j hj)
  obtain ⟨sc, st'⟩ := h.st
  have OD : Own (w6.setCell ⟨m, 5, none⟩ u) 0 3 u (S.addDue i).R.due.length 1 (cI (S.addDue i).R.due) := by
    have q : OwnI w6 0 u (S.R.due ++ [i]) := by unfold OwnI; rw [List.length_append, List.map_append]; exact o
    exact q.own.far K2 (fun j hj hh => by
      subst hh
      have := (h.bm.keep K1 nm)
      exact own_blk_ne q.own this (by decide) hj)
  have sz : w.heap.size ≤ (w6.setCell ⟨m, 5, none⟩ u).heap.size := K.size
  have ogl : gg < (w6.setCell ⟨m, 5, none⟩ u).heap.size := OD.blt gg ou
  have sup : ∀ k, F k → (fun k => F k ∨ k = gg) k := fun k hk => .inl hk
  refine ⟨⟨⟨h.ts.bt.keep K (nB h.ts.bt (by decide) (by decide)), .inl h.ts.bF, h.ts.L.far K (nT h.ts.L (by decide) (by decide)), h.ts.LF.more sup, fun i hi => (h.ts.fs i hi).far K (nT (h.ts.fs i hi) (by decide) (by decide)), fun i hi => (h.ts.fF i hi).more sup, h.ts.ap, h.ts.dead.far K (nT h.ts.dead (by decide) (by decide)), h.ts.dF.more sup, h.ts.col.far K (nI h.ts.col h.ac.2), h.ts.colF.more sup⟩, bb, .inl h.mF, fun k hk => ?_, h.wf.same rfl rfl rfl rfl, ⟨?_, ?_, ?_, OD, ?_⟩, ⟨h.rF.1.more sup, h.rF.2.1.more sup, ?_, h.rF.2.2.2.more sup⟩, ⟨h.ac.1, og h.ac.2 (lF h.ts.colF)⟩, ?_, .inl h.sF, ?_, ⟨h.lF.1.more sup, h.lF.2.1, h.lF.2.2.1, ?_⟩, fun j hj => ?_⟩, ?_⟩
  · rcases hk with hk | rfl
    · exact Nat.lt_of_lt_of_le (h.lt k hk) sz
    · exact ogl
  · exact og h.R.ap (lF h.rF.1)
  · exact h.R.re.far K (nI h.R.re h.R.ap)
  · exact h.R.wa.far K (nT h.R.wa (by decide) (by decide))
  · exact h.R.sn.far K (nT h.R.sn (by decide) (by decide))
  · intro j hj
    rw [ou] at hj
    injection hj with hj
    exact .inr hj.symm
  · exact h.st.keep K (nB st'.blk (by decide) (by decide))
  · exact Row.far h.li K (fun j hj hh => by
      rcases hh with hh | rfl
      · exact h.lF.2.2.2 j hh hj
      · obtain ⟨cs, b⟩ := h.lT j hj
        exact b.ne h.bm (by decide) rfl)
  · intro j h1 h2
    rw [ou] at h1
    injection h1 with h1
    subst h1
    rcases hat with h3 | h3
    · exact h.lF.2.2.2 _ h3 h2
    · have := h.lt _ (h.lF.1 _ h2); omega
  · obtain ⟨cs, b⟩ := h.lT j hj
    refine ⟨cs, b.keep K (fun hh => ?_)⟩
    rcases hh with hh | rfl
    · exact h.lF.2.2.2 j hh hj
    · exact b.ne h.bm (by decide) rfl
  · refine K.mono (fun k hk => ?_)
    rcases hk with hk | rfl
    · exact .inl (h.rF.2.2.1 k hk)
    · exact .inl h.mF
end
end Go.Proofs.YtjpalcejmloocaaGreat.World
