/-
  MemRun, as one text (a claim has at most 60 files).
-/
import Derived.Test.YtjpalcejmloocaaGreatCt11
import Derived.Test.YtjpalcejmloocaaGreatCt14
import Derived.Deep.DeepCutAuto
namespace Go.Proofs.YtjpalcejmloocaaGreat.World
open Go.RowKit Go.Proofs.YtjpalcejmloocaaGreat.Plain
set_option linter.unusedVariables false
attribute [local go_sem ↓] Go.wp_at_zero Go.wp_at_succ
/-- the cells of a world that is turned -/
def cellsMR (q : Nat) (R : PR) (re wa du sn : Value) (last : Int) (sb : Nat) : Array Value := #[.iface 151 (.pointer (some ⟨q, 0, none⟩)), .int .i64 R.proc, .int .i64 R.frame, re, wa, du, .string R.out, .string R.inp, .int .i64 R.how, .int .i64 R.exit, sn, .int .i64 last, .int .i64 0, .pointer (some ⟨sb, 0, none⟩), .slice none 0 0, .bool false]
/-- registers whose rows can be read -/
structure RegsAt (w : World) (R : PR) (re wa du sn : Value) : Prop where
  h1 : Row w re R.ready.length 1 (cI R.ready)
  h2 : Row w wa R.wait.length 2 (cWs R.wait)
  h3 : Row w du R.due.length 1 (cI R.due)
  h4 : Row w sn R.snaps.length 1 (cS R.snaps)
  m1 : R.ready.length ≤ 1000000
  m2 : R.wait.length ≤ 1000000
  m3 : R.due.length ≤ 1000000
  m4 : R.snaps.length ≤ 1000000
theorem keepG10 (w : World) (g : Nat) (x0 x1 x2 x3 x4 x5 x6 x7 x8 x9 : Value) : Keep (· = g) w ((((((((((w.setCell ⟨g, 0, none⟩ x0).setCell ⟨g, 1, none⟩ x1).setCell ⟨g, 2, none⟩ x2).setCell ⟨g, 3, none⟩ x3).setCell ⟨g, 4, none⟩ x4).setCell ⟨g, 5, none⟩ x5).setCell ⟨g, 6, none⟩ x6).setCell ⟨g, 7, none⟩ x7).setCell ⟨g, 8, none⟩ x8).setCell ⟨g, 9, none⟩ x9) :=
  ((((((((((Keep.refl (· = g) w).setCell (p := ⟨g, 0, none⟩) rfl _).setCell (p := ⟨g, 1, none⟩) rfl _).setCell (p := ⟨g, 2, none⟩) rfl _).setCell (p := ⟨g, 3, none⟩) rfl _).setCell (p := ⟨g, 4, none⟩) rfl _).setCell (p := ⟨g, 5, none⟩) rfl _).setCell (p := ⟨g, 6, none⟩) rfl _).setCell (p := ⟨g, 7, none⟩) rfl _).setCell (p := ⟨g, 8, none⟩) rfl _).setCell (p := ⟨g, 9, none⟩) rfl _
theorem extG10 {a w : World} {g : Nat} (h : Ext a w) (hg : a.heap.size ≤ g) (x0 x1 x2 x3 x4 x5 x6 x7 x8 x9 : Value) : Ext a ((((((((((w.setCell ⟨g, 0, none⟩ x0).setCell ⟨g, 1, none⟩ x1).setCell ⟨g, 2, none⟩ x2).setCell ⟨g, 3, none⟩ x3).setCell ⟨g, 4, none⟩ x4).setCell ⟨g, 5, none⟩ x5).setCell ⟨g, 6, none⟩ x6).setCell ⟨g, 7, none⟩ x7).setCell ⟨g, 8, none⟩ x8).setCell ⟨g, 9, none⟩ x9) :=
  (((((((((h.setNew (p := ⟨g, 0, none⟩) hg _).setNew (p := ⟨g, 1, none⟩) hg _).setNew (p := ⟨g, 2, none⟩) hg _).setNew (p := ⟨g, 3, none⟩) hg _).setNew (p := ⟨g, 4, none⟩) hg _).setNew (p := ⟨g, 5, none⟩) hg _).setNew (p := ⟨g, 6, none⟩) hg _).setNew (p := ⟨g, 7, none⟩) hg _).setNew (p := ⟨g, 8, none⟩) hg _).setNew (p := ⟨g, 9, none⟩) hg _
section
variable {w w' : World} {R : PR} {re wa du sn : Value}
theorem RegsAt.ext (h : RegsAt w R re wa du sn) (x : Ext w w') : RegsAt w' R re wa du sn := ⟨h.h1.ext x, h.h2.ext x, h.h3.ext x, h.h4.ext x, h.m1, h.m2, h.m3, h.m4⟩
/-- registers that fit into memory -/
structure RegsFit (R : PR) : Prop where
  m1 : R.ready.length ≤ 1000000
  m2 : R.wait.length ≤ 1000000
  m3 : R.due.length ≤ 1000000
  m4 : R.snaps.length ≤ 1000000
theorem RegsAt.fit (h : RegsAt w R re wa du sn) : RegsFit R := ⟨h.m1, h.m2, h.m3, h.m4⟩
theorem RegsNew.low {b b' : Nat} (h : RegsNew w b R re wa du sn) (hb : b' ≤ b) : RegsNew w b' R re wa du sn := ⟨h.ap, h.re.base hb, h.wa.base hb, h.du.base hb, h.sn.base hb⟩
theorem RegsNew.at_ {b : Nat} (h : RegsNew w b R re wa du sn) (m : RegsFit R) : RegsAt w R re wa du sn := ⟨h.re.row, h.wa.row, h.du.row, h.sn.row, m.m1, m.m2, m.m3, m.m4⟩
theorem RegsAt.regs (h : RegsAt w R re wa du sn) :
    Calls Tryz.prog 26 #[.agg (cellsR R re wa du sn)] w fun e w' => (∃ re' wa' du' sn', e = .returned (.agg (cellsR R re' wa' du' sn')) ∧ RegsNew w' w.heap.size R re' wa' du' sn') ∧ Ext w w' := cregs h.h1 h.h2 h.h3 h.h4 h.m1 h.m2 h.m3 h.m4
set_option maxRecDepth 100000 in
set_option maxHeartbeats 2000000 in
theorem mrnew {q : Nat} {last most : Int} (h : RegsAt w R re wa du sn) :
    Calls Tryz.prog 22 #[.iface 151 (.pointer (some ⟨q, 0, none⟩)), .agg (cellsR R re wa du sn), .int .i64 last, .int .i64 most] w fun e w' => (∃ m re' wa' du' sn' sb, e = .returned (.pointer (some ⟨m, 0, none⟩)) ∧ Blk w' m 56 (cellsMR q R re' wa' du' sn' last sb) ∧ RegsAt w' R re' wa' du' sn') ∧ Ext w w' := by
  have C1 := Lib.hid (fun W1 (x : Ext w W1) => (h.ext x).regs)
  have HF := Lib.hid h.fit
  have C2 := Lib.hid (fun W1 => Grey.new_stk W1 most)
  clear h
  unfold cellsR at *
  go_enter Tryz.func22, Tryz.ntmps22
  go_wp2_with fail
  refine (C1.out _ ((Ext.refl w).alloc _)).mono ?_
  rintro e w1 ⟨⟨re', wa', du', sn', rfl, RN⟩, x1⟩
  have X1 := Lib.hid (((Ext.refl w).alloc _).trans x1)
  have RN' := Lib.hid (RN.at_ HF.out)
  clear RN x1 C1
  go_wp2_with fail
  refine (C2.out _).mono ?_
  clear C2
  rintro e w3 ⟨rfl, st, x3⟩
  have X3 := Lib.hid (X1.out.trans x3)
  have R3 := Lib.hid (RN'.out.ext x3)
  clear st x3
  go_wp2_with fail
  go_ret
  exact ⟨⟨w3.heap.size, re', wa', du', sn', w1.heap.size, rfl, Blk.new _ _ _, R3.out.ext ((Ext.refl w3).alloc _)⟩, X3.out.alloc _⟩
set_option maxRecDepth 100000 in
set_option maxHeartbeats 2000000 in
theorem mrregs {m q sb : Nat} {last : Int} (b : Blk w m 56 (cellsMR q R re wa du sn last sb)) (h : RegsAt w R re wa du sn) :
    Calls Tryz.prog 12 #[.pointer (some ⟨m, 0, none⟩)] w fun e w' => (∃ re' wa' du' sn', e = .returned (.agg (cellsR R re' wa' du' sn')) ∧ RegsNew w' w.heap.size R re' wa' du' sn') ∧ Ext w w' := by
  have C1 := Lib.hid (fun W1 (x : Ext w W1) => (h.ext x).regs)
  have HF := Lib.hid h.fit
  clear h
  unfold cellsMR at b
  have HB := Lib.hid b
  clear b
  unfold cellsR at *
  go_enter Tryz.func12, Tryz.ntmps12
  go_upto_region 1 with (fail)
  refine wp_name (fun W1 hW => ?_)
  have B1 := Lib.hid (Blk.new' hW)
  have X1 := Lib.hid ((Ext.refl w).alloc' hW)
  have HM := Lib.hid (HB.out.ext X1.out)
  clear hW HB
  have HS := Lib.hid X1.out.below.size
  have HG := Lib.hid (Nat.le_refl w.heap.size)
  obtain ⟨g, eg⟩ : ∃ g, w.heap.size = g := ⟨_, rfl⟩
  rw [eg] at B1 HG
  have EG := Lib.hid eg
  rw [eg]
  clear eg
  obtain ⟨r1, r2, r3⟩ := HM.out.rules
  go_wp2_with fail
  refine (C1.out _ X1.out).mono ?_
  rintro e w2 ⟨⟨re', wa', du', sn', rfl, rn⟩, x2⟩
  have R2 := Lib.hid (rn.low (b' := g) (by have := HS.out; rw [EG.out] at this; exact this))
  have X2 := Lib.hid (X1.out.trans x2)
  have B2 := Lib.hid (B1.out.ext x2)
  clear r1 r2 r3 rn x2 C1 B1 X1 HM
  obtain ⟨A1, c1, rfl⟩ := R2.out.re.form
  obtain ⟨A2, c2, rfl⟩ := R2.out.wa.form
  obtain ⟨A3, c3, rfl⟩ := R2.out.du.form
  obtain ⟨A4, c4, rfl⟩ := R2.out.sn.form
  obtain ⟨r1, r2, r3⟩ := B2.out.rules
  go_wp2_with fail
  refine bodyPost_ret (v := .agg (cellsR R (.slice A1 R.ready.length c1) (.slice A2 R.wait.length c2) (.slice A3 R.due.length c3) (.slice A4 R.snaps.length c4))) (by simp [results, Tryz.results12, go_sem, r1, cellsR]) rfl ?_
  have K := keepG10 w2 g (.int .i64 R.proc) (.int .i64 R.frame) (.slice A1 R.ready.length c1) (.slice A2 R.wait.length c2) (.slice A3 R.due.length c3) (.string R.out) (.string R.inp) (.int .i64 R.how) (.int .i64 R.exit) (.slice A4 R.snaps.length c4)
  have XF := extG10 (g := g) X2.out (by rw [EG.out]; exact Nat.le_refl _) (.int .i64 R.proc) (.int .i64 R.frame) (.slice A1 R.ready.length c1) (.slice A2 R.wait.length c2) (.slice A3 R.due.length c3) (.string R.out) (.string R.inp) (.int .i64 R.how) (.int .i64 R.exit) (.slice A4 R.snaps.length c4)
  exact ⟨⟨_, _, _, _, rfl, by rw [EG.out]; exact R2.out.keep K B2.out⟩, XF⟩
set_option maxHeartbeats 1000000 in
theorem mrphase {m q sb : Nat} {last : Int} (b : Blk w m 56 (cellsMR q R re wa du sn last sb)) :
    Calls Tryz.prog 25 #[.pointer (some ⟨m, 0, none⟩)] w fun e w' => e = .returned (.int .i64 0) ∧ Ext w w' := by
  unfold cellsMR at b
  obtain ⟨r1, r2, r3⟩ := b.rules
  clear b
  go_enter Tryz.func25, Tryz.ntmps25
  go_wp2_with fail
  go_ret
  exact ⟨rfl, Ext.refl w⟩
end
/-- a machine lies in memory -/
def MachAt (w : World) (M : Nat) (R : PR) : Prop := ∃ m q re wa du sn last sb, Blk w M 157 #[.pointer (some ⟨m, 0, none⟩), .pointer (some ⟨q, 0, none⟩)] ∧ Blk w m 56 (cellsMR q R re wa du sn last sb) ∧ RegsAt w R re wa du sn
theorem MachAt.ext {w w' : World} {M : Nat} {R : PR} (h : MachAt w M R) (x : Ext w w') : MachAt w' M R := by
  obtain ⟨m, q, re, wa, du, sn, last, sb, h1, h2, h3⟩ := h
  exact ⟨m, q, re, wa, du, sn, last, sb, h1.ext x, h2.ext x, h3.ext x⟩
end Go.Proofs.YtjpalcejmloocaaGreat.World
