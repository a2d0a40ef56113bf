/-
  Cyc15, Cyc16, as one text (a claim has at most 60 files).
-/
import Derived.Test.YtjpalcejmloocaaGreatCt41
namespace Go.Proofs.YtjpalcejmloocaaGreat.World
open Go.RowKit Go.Proofs.YtjpalcejmloocaaGreat.Plain
set_option linter.unusedVariables false
attribute [local go_sem ↓] Go.wp_at_zero Go.wp_at_succ
def MS.setR (S : MS) (R : PR) : MS := { S with R := R }
def moreF (F : Nat → Prop) (re wa du sn : Value) : Nat → Prop := fun k => F k ∨ re.ownBlock = some k ∨ wa.ownBlock = some k ∨ du.ownBlock = some k ∨ sn.ownBlock = some k
section
variable {w w' w2 : World} {F F' F2 : Nat → Prop} {m : Nat} {S S' : MS} {X : MX}
set_option maxRecDepth 100000 in
set_option maxHeartbeats 2000000 in
/-- its registers laid anew: rows in new memory -/
theorem MemAt.setRegs {R : PR} {re wa du sn : Value} {b : Nat} (h : MemAt w F m S X) (hb : ∀ k, F k → k < b) (r : RegsNew w b R re wa du sn) : MemAt ((((((((((w.setCell ⟨m, 1, none⟩ (.int .i64 R.proc)).setCell ⟨m, 2, none⟩ (.int .i64 R.frame)).setCell ⟨m, 3, none⟩ re).setCell ⟨m, 4, none⟩ wa).setCell ⟨m, 5, none⟩ du).setCell ⟨m, 6, none⟩ (.string R.out)).setCell ⟨m, 7, none⟩ (.string R.inp)).setCell ⟨m, 8, none⟩ (.int .i64 R.how)).setCell ⟨m, 9, none⟩ (.int .i64 R.exit)).setCell ⟨m, 10, none⟩ sn) (moreF F re wa du sn) m (S.setR R) { X with re := re, wa := wa, du := du, sn := sn } ∧ Keep (· = m) w ((((((((((w.setCell ⟨m, 1, none⟩ (.int .i64 R.proc)).setCell ⟨m, 2, none⟩ (.int .i64 R.frame)).setCell ⟨m, 3, none⟩ re).setCell ⟨m, 4, none⟩ wa).setCell ⟨m, 5, none⟩ du).setCell ⟨m, 6, none⟩ (.string R.out)).setCell ⟨m, 7, none⟩ (.string R.inp)).setCell ⟨m, 8, none⟩ (.int .i64 R.how)).setCell ⟨m, 9, none⟩ (.int .i64 R.exit)).setCell ⟨m, 10, none⟩ sn) := by
  have K : Keep (· = m) w ((((((((((w.setCell ⟨m, 1, none⟩ (.int .i64 R.proc)).setCell ⟨m, 2, none⟩ (.int .i64 R.frame)).setCell ⟨m, 3, none⟩ re).setCell ⟨m, 4, none⟩ wa).setCell ⟨m, 5, none⟩ du).setCell ⟨m, 6, none⟩ (.string R.out)).setCell ⟨m, 7, none⟩ (.string R.inp)).setCell ⟨m, 8, none⟩ (.int .i64 R.how)).setCell ⟨m, 9, none⟩ (.int .i64 R.exit)).setCell ⟨m, 10, none⟩ sn) := ((((((((((Keep.refl (· = m) w).setCell (p := ⟨m, 1, none⟩) rfl (.int .i64 R.proc)).setCell (p := ⟨m, 2, none⟩) rfl (.int .i64 R.frame)).setCell (p := ⟨m, 3, none⟩) rfl re).setCell (p := ⟨m, 4, none⟩) rfl wa).setCell (p := ⟨m, 5, none⟩) rfl du).setCell (p := ⟨m, 6, none⟩) rfl (.string R.out)).setCell (p := ⟨m, 7, none⟩) rfl (.string R.inp)).setCell (p := ⟨m, 8, none⟩) rfl (.int .i64 R.how)).setCell (p := ⟨m, 9, none⟩) rfl (.int .i64 R.exit)).setCell (p := ⟨m, 10, none⟩) rfl sn
  have kt : KT [56] w ((((((((((w.setCell ⟨m, 1, none⟩ (.int .i64 R.proc)).setCell ⟨m, 2, none⟩ (.int .i64 R.frame)).setCell ⟨m, 3, none⟩ re).setCell ⟨m, 4, none⟩ wa).setCell ⟨m, 5, none⟩ du).setCell ⟨m, 6, none⟩ (.string R.out)).setCell ⟨m, 7, none⟩ (.string R.inp)).setCell ⟨m, 8, none⟩ (.int .i64 R.how)).setCell ⟨m, 9, none⟩ (.int .i64 R.exit)).setCell ⟨m, 10, none⟩ sn) := K.mono (fun j e => by subst e; exact ⟨_, _, List.mem_singleton.2 rfl, h.bm⟩)
  have bb := (((((((((h.bm.set 1 (.int .i64 R.proc)).set 2 (.int .i64 R.frame)).set 3 re).set 4 wa).set 5 du).set 6 (.string R.out)).set 7 (.string R.inp)).set 8 (.int .i64 R.how)).set 9 (.int .i64 R.exit)).set 10 sn
  unfold cellsM at bb
  simp only [List.setIfInBounds_toArray, List.set_cons_zero, List.set_cons_succ] at bb
  have bb' := Lib.hid bb
  clear bb
  have KH := Lib.hid K
  have kth := Lib.hid kt
  clear K kt
  have far : ∀ {u v : Value} {e : TypeId} {n sz : Nat} {c : Nat → Nat → Value}, InF F u → Own w b e v n sz c → ∀ k, u.ownBlock = some k → v.ownBlock ≠ some k := fun hu ho k h1 h2 => by
    have a := hb k (hu k h1)
    have c := (ho.block h2).1
    omega
  have far2 : ∀ {u v : Value} {e : TypeId} {n sz : Nat} {c : Nat → Nat → Value}, InF F u → Own w b e v n sz c → ∀ k, v.ownBlock = some k → u.ownBlock ≠ some k := fun hu ho k h1 h2 => far hu ho k h2 h1
  have sup : ∀ k, F k → moreF F re wa du sn k := fun k hk => .inl hk
  have hm := h.more (F' := moreF F re wa du sn) sup (fun k hk => by
    rcases hk with hk | hk | hk | hk | hk
    · exact h.lt k hk
    · exact r.re.blt k hk
    · exact r.wa.blt k hk
    · exact r.du.blt k hk
    · exact r.sn.blt k hk)
  have r' := r.kt kth.out (by decide) (by decide) (by decide)
  refine ⟨⟨(hm.ts.kt kth.out (by decide) (by decide) (by decide) (by decide) (by decide)).same rfl rfl rfl |> fun t => ⟨t.bt, t.bF, t.L, t.LF, t.fs, t.fF, t.ap, t.dead, t.dF, t.col, t.colF⟩, bb'.out, hm.mF, fun j hj => Nat.lt_of_lt_of_le (hm.lt j hj) KH.out.size, h.wf.same rfl rfl rfl rfl, ⟨r'.ap, r'.re.base (Nat.zero_le _), r'.wa.base (Nat.zero_le _), r'.du.base (Nat.zero_le _), r'.sn.base (Nat.zero_le _)⟩, ⟨fun k hk => .inr (.inl hk), fun k hk => .inr (.inr (.inl hk)), fun k hk => .inr (.inr (.inr (.inl hk))), fun k hk => .inr (.inr (.inr (.inr hk)))⟩, ⟨far h.ts.colF r.re, far h.ts.colF r.du⟩, stk_kt h.st kth.out (by decide), hm.sF, Row.kt h.li h.lT kth.out (by decide), ⟨hm.lF.1, h.lF.2.1, far2 h.lF.1 r.re, far2 h.lF.1 r.du⟩, h.lT.kt kth.out (by decide)⟩, KH.out⟩
set_option maxRecDepth 100000 in
set_option maxHeartbeats 2000000 in
theorem mregsM (h : M w F m S) (hr : okRB S.R = true) : Calls Tryz.prog 12 #[.pointer (some ⟨m, 0, none⟩)] w fun e w' => (∃ re' wa' du' sn', e = .returned (.agg (cellsR S.R re' wa' du' sn')) ∧ RegsNew w' w.heap.size S.R re' wa' du' sn') ∧ Ext w w' := by
  obtain ⟨X, hX⟩ := h
  have rl := okR_len hr
  have RA : RegsAt w S.R X.re X.wa X.du X.sn := hX.R.at_ ⟨by omega, by omega, by omega, by omega⟩
  have C1 := Lib.hid (fun W1 (x : Ext w W1) => (RA.ext x).regs)
  obtain ⟨A1, c1, e1⟩ := hX.R.re.form
  obtain ⟨A2, c2, e2⟩ := hX.R.wa.form
  obtain ⟨A3, c3, e3⟩ := hX.R.du.form
  obtain ⟨A4, c4, e4⟩ := hX.R.sn.form
  have HB := Lib.hid hX.bm
  unfold cellsM at HB
  rw [e1, e2, e3, e4] at HB C1
  clear hX rl RA e1 e2 e3 e4 hr
  unfold cellsR at *
  go_enter Tryz.func12, Tryz.ntmps12
  go_upto_region 1 with (fail)
  refine wp_name (fun W1 hW => ?_)
  have B1 := Lib.hid (Blk.new' hW)
  have X1 := Lib.hid ((Ext.refl w).alloc' hW)
  have HM := Lib.hid (HB.out.ext X1.out)
  clear hW HB
  have HS := Lib.hid X1.out.below.size
  obtain ⟨g, eg⟩ : ∃ g, w.heap.size = g := ⟨_, rfl⟩
  rw [eg] at B1
  have EG := Lib.hid eg
  rw [eg]
  clear eg
  obtain ⟨r1, r2, r3⟩ := HM.out.rules
  go_wp2_with fail
  refine (C1.out _ X1.out).mono ?_
  rintro e w2 ⟨⟨re', wa', du', sn', rfl, rn⟩, x2⟩
  have R2 := Lib.hid (rn.low (b' := g) (by have := HS.out; rw [EG.out] at this; exact this))
  have X2 := Lib.hid (X1.out.trans x2)
  have B2 := Lib.hid (B1.out.ext x2)
  clear r1 r2 r3 rn x2 C1 B1 X1 HM
  obtain ⟨A1, c1, rfl⟩ := R2.out.re.form
  obtain ⟨A2, c2, rfl⟩ := R2.out.wa.form
  obtain ⟨A3, c3, rfl⟩ := R2.out.du.form
  obtain ⟨A4, c4, rfl⟩ := R2.out.sn.form
  obtain ⟨r1, r2, r3⟩ := B2.out.rules
  go_wp2_with fail
  refine bodyPost_ret (v := .agg (cellsR S.R (.slice A1 S.R.ready.length c1) (.slice A2 S.R.wait.length c2) (.slice A3 S.R.due.length c3) (.slice A4 S.R.snaps.length c4))) (by simp [results, Tryz.results12, go_sem, r1, cellsR]) rfl ?_
  have K := keepG10 w2 g (.int .i64 S.R.proc) (.int .i64 S.R.frame) (.slice A1 S.R.ready.length c1) (.slice A2 S.R.wait.length c2) (.slice A3 S.R.due.length c3) (.string S.R.out) (.string S.R.inp) (.int .i64 S.R.how) (.int .i64 S.R.exit) (.slice A4 S.R.snaps.length c4)
  have XF := extG10 (g := g) X2.out (by rw [EG.out]; exact Nat.le_refl _) (.int .i64 S.R.proc) (.int .i64 S.R.frame) (.slice A1 S.R.ready.length c1) (.slice A2 S.R.wait.length c2) (.slice A3 S.R.due.length c3) (.string S.R.out) (.string S.R.inp) (.int .i64 S.R.how) (.int .i64 S.R.exit) (.slice A4 S.R.snaps.length c4)
  exact ⟨⟨_, _, _, _, rfl, by first | exact R2.out.keep K B2.out | (rw [EG.out]; exact R2.out.keep K B2.out)⟩, XF⟩
end
end Go.Proofs.YtjpalcejmloocaaGreat.World
namespace Go.Proofs.YtjpalcejmloocaaGreat.World
open Go.RowKit Go.Proofs.YtjpalcejmloocaaGreat.Plain
set_option linter.unusedVariables false
attribute [local go_sem ↓] Go.wp_at_zero Go.wp_at_succ
section
variable {w w' w2 : World} {F F' F2 : Nat → Prop} {m : Nat} {S S' : MS} {X : MX}
set_option maxRecDepth 100000 in
set_option maxHeartbeats 2000000 in
theorem mworldM (h : M w F m S) (hr : okRB S.R = true) : Calls Tryz.prog 28 #[.pointer (some ⟨m, 0, none⟩)] w fun e w' => (∃ C1 d1 fs C2 d2 C3 d3 C4 d4 C5 d5 C6 d6, e = .returned (.agg #[.slice C1 S.L.length d1, .slice C2 S.dead.length d2, .int .i64 S.last, .int .i64 S.R.proc, .int .i64 S.R.frame, .slice C3 S.R.ready.length d3, .slice C4 S.R.wait.length d4, .slice C5 S.R.due.length d5, .string S.R.out, .string S.R.inp, .int .i64 S.R.how, .int .i64 S.R.exit, .slice C6 S.R.snaps.length d6]) ∧ NewW w' w.heap.size (S.worldL S.last S.R) ⟨.slice C1 S.L.length d1, fs, .slice C2 S.dead.length d2, .slice C3 S.R.ready.length d3, .slice C4 S.R.wait.length d4, .slice C5 S.R.due.length d5, .slice C6 S.R.snaps.length d6⟩) ∧ Ext w w' := by
  have CS := Lib.hid (fun W (x : Ext w W) => msave (h.ext x) hr)
  clear h hr
  go_enter Tryz.func28, Tryz.ntmps28
  go_upto_region 1 with (fail)
  refine wp_name (fun W1 hW => ?_)
  have B2 := Lib.hid (Blk.new' hW)
  have X1 := Lib.hid ((Ext.refl w).alloc' hW)
  clear hW
  obtain ⟨g2, eg⟩ : ∃ g, w.heap.size = g := ⟨_, rfl⟩
  have HG2 := Lib.hid (show w.heap.size ≤ g2 by rw [eg]; exact Nat.le_refl _)
  have HG3 := Lib.hid (show w.heap.size ≤ W1.heap.size from X1.out.below.size)
  rw [eg] at B2 ⊢
  have EG := Lib.hid eg
  clear eg
  go_wp2_with fail
  refine (CS.out _ X1.out).mono ?_
  rintro e w3 ⟨⟨x', rfl, N8⟩, x3⟩
  obtain ⟨vL, fs, vD, vRe, vWa, vDu, vSn⟩ := x'
  obtain ⟨C1, d1, f1⟩ := N8.L.form
  obtain ⟨C2, d2, f2⟩ := N8.dead.form
  obtain ⟨C3, d3, f3⟩ := N8.R.re.form
  obtain ⟨C4, d4, f4⟩ := N8.R.wa.form
  obtain ⟨C5, d5, f5⟩ := N8.R.du.form
  obtain ⟨C6, d6, f6⟩ := N8.R.sn.form
  replace f1 : vL = .slice C1 S.L.length d1 := f1
  replace f2 : vD = .slice C2 S.dead.length d2 := f2
  replace f3 : vRe = .slice C3 S.R.ready.length d3 := f3
  replace f4 : vWa = .slice C4 S.R.wait.length d4 := f4
  replace f5 : vDu = .slice C5 S.R.due.length d5 := f5
  replace f6 : vSn = .slice C6 S.R.snaps.length d6 := f6
  subst f1 f2 f3 f4 f5 f6
  have N3 := Lib.hid (nw_low N8 HG3.out)
  have X3 := Lib.hid (X1.out.trans x3)
  have B3 := Lib.hid (B2.out.ext x3)
  have NE := Lib.hid (show g2 ≠ w3.heap.size by have := B3.out.lt; omega)
  clear N8 x3 CS B2 X1
  unfold cellsW
  simp only [show (S.worldL S.last S.R).last = S.last from rfl, show (S.worldL S.last S.R).R = S.R from rfl]
  obtain ⟨r1, r2, r3⟩ := B3.out.rules
  have ne := NE.out
  go_wp2_with fail
  refine bodyPost_ret (v := .agg #[.slice C1 S.L.length d1, .slice C2 S.dead.length d2, .int .i64 S.last, .int .i64 S.R.proc, .int .i64 S.R.frame, .slice C3 S.R.ready.length d3, .slice C4 S.R.wait.length d4, .slice C5 S.R.due.length d5, .string S.R.out, .string S.R.inp, .int .i64 S.R.how, .int .i64 S.R.exit, .slice C6 S.R.snaps.length d6]) (by simp [results, Tryz.results28, go_sem, r1, r3]) rfl ?_
  have K := keepG13 w3 g2 (.slice C1 S.L.length d1) (.slice C2 S.dead.length d2) (.int .i64 S.last) (.int .i64 S.R.proc) (.int .i64 S.R.frame) (.slice C3 S.R.ready.length d3) (.slice C4 S.R.wait.length d4) (.slice C5 S.R.due.length d5) (.string S.R.out) (.string S.R.inp) (.int .i64 S.R.how) (.int .i64 S.R.exit) (.slice C6 S.R.snaps.length d6)
  have XF := extG13 (g := g2) X3.out HG2.out (.slice C1 S.L.length d1) (.slice C2 S.dead.length d2) (.int .i64 S.last) (.int .i64 S.R.proc) (.int .i64 S.R.frame) (.slice C3 S.R.ready.length d3) (.slice C4 S.R.wait.length d4) (.slice C5 S.R.due.length d5) (.string S.R.out) (.string S.R.inp) (.int .i64 S.R.how) (.int .i64 S.R.exit) (.slice C6 S.R.snaps.length d6)
  have kt : KT [31] w3 _ := K.mono (fun j e => by subst e; exact ⟨_, _, List.mem_singleton.2 rfl, B3.out⟩)
  exact ⟨⟨C1, d1, fs, C2, d2, C3, d3, C4, d4, C5, d5, C6, d6, rfl, nw_ext (nw_kt N3.out kt (by decide) (by decide) (by decide) (by decide) (by decide) (by decide)) ((Ext.refl _).alloc _)⟩, XF.alloc _⟩
set_option maxRecDepth 100000 in
set_option maxHeartbeats 4000000 in
theorem msetregs (h : M w F m S) (hs : okRB S.R = true) {R : PR} (hr : okRB R = true) (hc : checkB (S.worldL S.last R) = true) {re wa du sn : Value} (r : RegsAt w R re wa du sn) : Calls Tryz.prog 15 #[.pointer (some ⟨m, 0, none⟩), .agg (cellsR R re wa du sn)] w fun e w' => e = .returned (.bool true) ∧ Goes F m (S.setR R) w w' := by
  have CW := Lib.hid (fun W (x : Ext w W) => mworldM (h.ext x) hs)
  have HM := Lib.hid h
  have HR := Lib.hid r
  have wf := h.wf
  have hl : Hid (0 ≤ S.last ∧ S.last ≤ 1000000) := Lib.hid (by have := wf.len; have := wf.last; omega)
  have NW := Lib.hid (nums_world wf hl.out hr)
  have CRg := Lib.hid (fun W (x : Ext w W) => (r.ext x).regs)
  have HC := Lib.hid hc
  obtain ⟨A1, c1, e1, _⟩ := r.h1.form
  obtain ⟨A2, c2, e2, _⟩ := r.h2.form
  obtain ⟨A3, c3, e3, _⟩ := r.h3.form
  obtain ⟨A4, c4, e4, _⟩ := r.h4.form
  subst e1 e2 e3 e4
  clear h hs hr hc r wf hl
  unfold cellsR at *
  go_enter Tryz.func15, Tryz.ntmps15
  go_upto_region 1 with (fail)
  refine wp_name (fun W1 hW => ?_)
  have B3 := Lib.hid (Blk.new' hW)
  have X1 := Lib.hid ((Ext.refl w).alloc' hW)
  clear hW
  generalize w.heap.size = g3 at B3 ⊢
  go_wp2_with fail
  refine (CW.out _ X1.out).mono ?_
  rintro e w4 ⟨⟨C1, d1, fs, C2, d2, C3, d3, C4, d4, C5, d5, C6, d6, rfl, N4⟩, x4⟩
  have X4 := Lib.hid (X1.out.trans x4)
  have B4 := Lib.hid (B3.out.ext x4)
  have WA := Lib.hid N4.at_
  clear N4 x4 CW B3 X1
  obtain ⟨r1, r2, r3⟩ := B4.out.rules
  go_upto_region 3 with (fail)
  refine wp_name (fun W5 hW => ?_)
  have B5 := Lib.hid (Blk.new' hW)
  have X5 := Lib.hid ((Ext.refl w4).alloc' hW)
  clear hW r1 r2 r3
  have B35 := Lib.hid (B4.out.ext X5.out)
  have X50 := Lib.hid (X4.out.trans X5.out)
  have W5A : WorldAt W5 ⟨.slice C1 S.L.length d1, fs, .slice C2 S.dead.length d2, .slice A1 R.ready.length c1, .slice A2 R.wait.length c2, .slice A3 R.due.length c3, .slice A4 R.snaps.length c4⟩ (S.worldL S.last R) :=
    ⟨WA.out.L.ext X5.out, WA.out.dead.ext X5.out, Row.ext HR.out.h1 X50.out, Row.ext HR.out.h2 X50.out, Row.ext HR.out.h3 X50.out, Row.ext HR.out.h4 X50.out, NW.out⟩
  have CK : Hid (Calls Tryz.prog 20 #[.agg #[.slice C1 S.L.length d1, .slice C2 S.dead.length d2, .int .i64 S.last, .int .i64 R.proc, .int .i64 R.frame, .slice A1 R.ready.length c1, .slice A2 R.wait.length c2, .slice A3 R.due.length c3, .string R.out, .string R.inp, .int .i64 R.how, .int .i64 R.exit, .slice A4 R.snaps.length c4]] W5 fun e w' => e = .returned (.bool true) ∧ Ext W5 w') := Lib.hid (by
    have q := check W5A
    rw [HC.out] at q
    exact q)
  clear W5A WA NW HC X4 B4 X5
  generalize w4.heap.size = g5 at *
  obtain ⟨r1, r2, r3⟩ := B5.out.rules
  go_wp2_with fail
  refine CK.out.mono ?_
  rintro e w6 ⟨rfl, x6⟩
  have X6 := Lib.hid (X50.out.trans x6)
  have B36 := Lib.hid (B35.out.ext x6)
  clear x6 CK B5 B35 X50 r1 r2 r3
  obtain ⟨r1, r2, r3⟩ := B36.out.rules
  go_wp2_with fail
  refine (CRg.out _ X6.out).mono ?_
  rintro e w7 ⟨⟨re', wa', du', sn', rfl, n7⟩, x7⟩
  obtain ⟨D1, k1, f1⟩ := n7.re.form
  obtain ⟨D2, k2, f2⟩ := n7.wa.form
  obtain ⟨D3, k3, f3⟩ := n7.du.form
  obtain ⟨D4, k4, f4⟩ := n7.sn.form
  subst f1 f2 f3 f4
  have N7 := Lib.hid n7
  have X7 := Lib.hid (X6.out.trans x7)
  have HZ := Lib.hid X6.out.below.size
  clear n7 x7 CRg B36 r1 r2 r3
  obtain ⟨X, hX⟩ := HM.out
  have hX7 := hX.ext X7.out
  obtain ⟨q1, q2, q3⟩ := hX7.bm.rules
  unfold cellsM at q1
  obtain ⟨P1, P2⟩ := hX7.setRegs (b := w6.heap.size) (fun k hk => by have := hX.lt k hk; have := HZ.out; omega) N7.out
  have MV : Mov F (moreF F (.slice D1 R.ready.length k1) (.slice D2 R.wait.length k2) (.slice D3 R.due.length k3) (.slice D4 R.snaps.length k4)) w _ := ⟨(Keep.of_ext X7.out F).trans (P2.mono (fun j e => by subst e; exact hX.mF)), fun k hk => by
    have hz := HZ.out
    rcases hk with hk | hk | hk | hk | hk
    · exact .inl hk
    · have := (N7.out.re.block hk).1; exact .inr (by omega)
    · have := (N7.out.wa.block hk).1; exact .inr (by omega)
    · have := (N7.out.du.block hk).1; exact .inr (by omega)
    · have := (N7.out.sn.block hk).1; exact .inr (by omega)⟩
  have GG := Lib.hid (show Goes F m (S.setR R) w _ from ⟨_, ⟨_, P1⟩, MV⟩)
  clear P1 P2 MV hX hX7 HM N7 X7 X6 HZ HR
  go_wp2_with fail
  go_ret
  exact ⟨rfl, GG.out⟩
end
end Go.Proofs.YtjpalcejmloocaaGreat.World
