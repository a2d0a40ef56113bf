/-
  Cyc14, as one text (a claim has at most 60 files).
-/
import Derived.Test.YtjpalcejmloocaaGreatCt39
import Derived.Test.YtjpalcejmloocaaGreatCt40
import Derived.Deep.RegionHeld3
namespace Go.Proofs.YtjpalcejmloocaaGreat.World
open Go.RowKit Go.Proofs.YtjpalcejmloocaaGreat.Plain
set_option linter.unusedVariables false
attribute [local go_sem ↓] Go.wp_at_zero Go.wp_at_succ
/-- registers of small numbers -/
def okRB (R : PR) : Bool :=
  decide (0 ≤ R.proc ∧ R.proc ≤ 1000000 ∧ 0 ≤ R.frame ∧ R.frame ≤ 1000000 ∧ 0 ≤ R.how ∧ R.how ≤ 1000 ∧ 0 ≤ R.exit ∧ R.exit ≤ 1000) && (decide (R.out.size ≤ 1000 ∧ R.inp.size ≤ 1000) && (R.ready.all (fun i => decide (0 ≤ i ∧ i ≤ 1000000)) && (R.due.all (fun i => decide (0 ≤ i ∧ i ≤ 1000000)) && (decide (R.wait.length = 0 ∧ R.snaps.length = 0) && decide (R.ready.length ≤ 10000 ∧ R.due.length ≤ 10000)))))
def MS.worldL (S : MS) (last : Int) (R : PR) : PW := ⟨S.L, S.dead, last, R⟩
theorem nums_world {S : MS} (wf : S.Wf) {last : Int} (hl : 0 ≤ last ∧ last ≤ 1000000) {R : PR} (hr : okRB R = true) : Nums (S.worldL last R) := by
  unfold okRB at hr
  simp only [Bool.and_eq_true, decide_eq_true_eq, List.all_eq_true] at hr
  obtain ⟨⟨h1, h2, h3, h4, h5, h6, h7, h8⟩, ⟨h9, h10⟩, h11, h12, ⟨h13, h14⟩, h15, h16⟩ := hr
  have I : ∀ {n : Int}, 0 ≤ n ∧ n ≤ 1000000 → in64 n := fun h => by unfold in64; omega
  refine ⟨I hl, I ⟨h1, h2⟩, I ⟨h3, h4⟩, I ⟨h5, by show R.how ≤ _; omega⟩, I ⟨h7, by show R.exit ≤ _; omega⟩, by show R.out.size ≤ _; unfold maxLen; omega, by show R.inp.size ≤ _; unfold maxLen; omega, fun x hx => I (h11 x hx), fun x hx => I (h12 x hx), fun x hx => ?_, fun s hs => ?_, fun t ht => ?_⟩
  · have e : R.wait = [] := List.eq_nil_of_length_eq_zero h13
    have hx : x ∈ R.wait := hx
    rw [e] at hx; cases hx
  · have e : R.snaps = [] := List.eq_nil_of_length_eq_zero h14
    have hs : s ∈ R.snaps := hs
    rw [e] at hs; cases hs
  · have ht : t ∈ S.L := ht
    obtain ⟨i, hi, rfl⟩ := List.getElem_of_mem ht
    have e : tAt S.L i = S.L[i] := by unfold tAt; rw [List.getD_eq_getElem?_getD, List.getElem?_eq_getElem hi]; rfl
    have a1 := wf.cls i hi
    have a2 := wf.hash i hi
    have a3 := wf.fmt i hi
    have a4 := wf.nB i hi
    have a5 := wf.len
    have a6 := wf.last
    rw [e] at a1 a2 a3 a4
    refine ⟨by unfold in64; omega, by unfold in64; omega, by unfold in64; omega, by unfold maxLen; omega, fun v hv => ?_⟩
    obtain ⟨j, hj, rfl⟩ := List.getElem_of_mem hv
    have a7 := wf.fld i j hi (by rw [e]; exact hj)
    rw [e] at a7
    have e2 : vAt S.L[i].F j = S.L[i].F[j] := by unfold vAt; rw [List.getD_eq_getElem?_getD, List.getElem?_eq_getElem hj]; rfl
    rw [e2] at a7
    unfold fldB at a7
    split at a7
    · have := of_decide_eq_true a7; unfold in64; omega
    · unfold fitsB at a7; have := of_decide_eq_true a7; unfold in64; omega
theorem okR_len {R : PR} (hr : okRB R = true) : R.ready.length ≤ 10000 ∧ R.wait.length = 0 ∧ R.due.length ≤ 10000 ∧ R.snaps.length = 0 := by
  unfold okRB at hr
  simp only [Bool.and_eq_true, decide_eq_true_eq, List.all_eq_true] at hr
  obtain ⟨_, _, _, _, ⟨h13, h14⟩, h15, h16⟩ := hr
  exact ⟨h15, h13, h16, h14⟩
theorem keepG13 (w : World) (g : Nat) (x0 x1 x2 x3 x4 x5 x6 x7 x8 x9 x10 x11 x12 : Value) : Keep (· = g) w (((((((((((((w.setCell ⟨g, 0, none⟩ x0).setCell ⟨g, 1, none⟩ x1).setCell ⟨g, 2, none⟩ x2).setCell ⟨g, 3, none⟩ x3).setCell ⟨g, 4, none⟩ x4).setCell ⟨g, 5, none⟩ x5).setCell ⟨g, 6, none⟩ x6).setCell ⟨g, 7, none⟩ x7).setCell ⟨g, 8, none⟩ x8).setCell ⟨g, 9, none⟩ x9).setCell ⟨g, 10, none⟩ x10).setCell ⟨g, 11, none⟩ x11).setCell ⟨g, 12, none⟩ x12) :=
  (((((((((((((Keep.refl (· = g) w).setCell (p := ⟨g, 0, none⟩) rfl _).setCell (p := ⟨g, 1, none⟩) rfl _).setCell (p := ⟨g, 2, none⟩) rfl _).setCell (p := ⟨g, 3, none⟩) rfl _).setCell (p := ⟨g, 4, none⟩) rfl _).setCell (p := ⟨g, 5, none⟩) rfl _).setCell (p := ⟨g, 6, none⟩) rfl _).setCell (p := ⟨g, 7, none⟩) rfl _).setCell (p := ⟨g, 8, none⟩) rfl _).setCell (p := ⟨g, 9, none⟩) rfl _).setCell (p := ⟨g, 10, none⟩) rfl _).setCell (p := ⟨g, 11, none⟩) rfl _).setCell (p := ⟨g, 12, none⟩) rfl _
theorem extG13 {a w : World} {g : Nat} (h : Ext a w) (hg : a.heap.size ≤ g) (x0 x1 x2 x3 x4 x5 x6 x7 x8 x9 x10 x11 x12 : Value) : Ext a (((((((((((((w.setCell ⟨g, 0, none⟩ x0).setCell ⟨g, 1, none⟩ x1).setCell ⟨g, 2, none⟩ x2).setCell ⟨g, 3, none⟩ x3).setCell ⟨g, 4, none⟩ x4).setCell ⟨g, 5, none⟩ x5).setCell ⟨g, 6, none⟩ x6).setCell ⟨g, 7, none⟩ x7).setCell ⟨g, 8, none⟩ x8).setCell ⟨g, 9, none⟩ x9).setCell ⟨g, 10, none⟩ x10).setCell ⟨g, 11, none⟩ x11).setCell ⟨g, 12, none⟩ x12) :=
  ((((((((((((h.setNew (p := ⟨g, 0, none⟩) hg _).setNew (p := ⟨g, 1, none⟩) hg _).setNew (p := ⟨g, 2, none⟩) hg _).setNew (p := ⟨g, 3, none⟩) hg _).setNew (p := ⟨g, 4, none⟩) hg _).setNew (p := ⟨g, 5, none⟩) hg _).setNew (p := ⟨g, 6, none⟩) hg _).setNew (p := ⟨g, 7, none⟩) hg _).setNew (p := ⟨g, 8, none⟩) hg _).setNew (p := ⟨g, 9, none⟩) hg _).setNew (p := ⟨g, 10, none⟩) hg _).setNew (p := ⟨g, 11, none⟩) hg _).setNew (p := ⟨g, 12, none⟩) hg _
theorem nw_kt {w w' : World} {b : Nat} {W : PW} {x : WV} {ts : List TypeId} (h : NewW w b W x) (k : KT ts w w') (h1 : 3 ∉ ts) (h2 : 96 ∉ ts) (h3 : 9 ∉ ts) (h4 : 49 ∉ ts) (h5 : 38 ∉ ts) (h6 : 4 ∉ ts) : NewW w' b W x :=
  ⟨h.L.kt k h4, fun i hi => (h.fs i hi).kt k h5, h.ap, h.dead.kt k h6, h.R.kt k h1 h2 h3, h.nums⟩
theorem nw_low {w : World} {b b' : Nat} {W : PW} {x : WV} (h : NewW w b W x) (hb : b' ≤ b) : NewW w b' W x := ⟨h.L.base hb, fun i hi => (h.fs i hi).base hb, h.ap, h.dead.base hb, h.R.base hb, h.nums⟩
theorem nw_ext {w w' : World} {b : Nat} {W : PW} {x : WV} (h : NewW w b W x) (y : Ext w w') : NewW w' b W x := ⟨h.L.ext y, fun i hi => (h.fs i hi).ext y, h.ap, h.dead.ext y, h.R.ext y, h.nums⟩
section
variable {w w' w2 : World} {F F' F2 : Nat → Prop} {m : Nat} {S S' : MS} {X : MX}
/-- the things as a world -/
theorem TsAt.world (h : TsAt w F S X) (wf : S.Wf) {last : Int} (hl : 0 ≤ last ∧ last ≤ 1000000) {R : PR} (hr : okRB R = true) {re wa du sn : Value} (r : RegsAt w R re wa du sn) : WorldAt w ⟨X.vl, X.fs, X.vd, re, wa, du, sn⟩ (S.worldL last R) :=
  ⟨⟨h.L.row, fun i hi => (h.fs i hi).row⟩, h.dead.row, r.h1, r.h2, r.h3, r.h4, nums_world wf hl hr⟩
set_option maxRecDepth 100000 in
set_option maxHeartbeats 2000000 in
theorem tworld (h : TsAt w F S X) (wf : S.Wf) {last : Int} (hl : 0 ≤ last ∧ last ≤ 1000000) {R : PR} (hr : okRB R = true) {re wa du sn : Value} (r : RegsAt w R re wa du sn) :
    Calls Tryz.prog 188 #[.pointer (some ⟨X.bt, 0, none⟩), .agg (cellsR R re wa du sn), .int .i64 last] w fun e w' => (∃ x', e = .returned (.tuple #[.agg (cellsW (S.worldL last R) x'), .bool true]) ∧ NewW w' w.heap.size (S.worldL last R) x') ∧ Ext w w' := by
  have b1 := wf.len
  have b2 := wf.last
  have b3 := wf.dead
  have rl := okR_len hr
  have CC := Lib.hid (fun W (x : Ext w W) => copy_ ((h.ext x).world wf hl hr (r.ext x)) (by show S.L.length ≤ _; omega) (by show S.dead.length ≤ _; omega) (by show R.ready.length ≤ _; omega) (by show R.wait.length ≤ _; omega) (by show R.due.length ≤ _; omega) (by show R.snaps.length ≤ _; omega) (fun i hi => Nat.le_trans (wf.nF i hi) (by omega)))
  obtain ⟨A1, c1, e1, _⟩ := r.h1.form
  obtain ⟨A2, c2, e2, _⟩ := r.h2.form
  obtain ⟨A3, c3, e3, _⟩ := r.h3.form
  obtain ⟨A4, c4, e4, _⟩ := r.h4.form
  obtain ⟨A5, c5, e5⟩ := h.L.form
  obtain ⟨A6, c6, e6⟩ := h.dead.form
  have HB := Lib.hid h.bt
  subst e1 e2 e3 e4
  rw [e5, e6] at CC HB
  clear h wf hr r b1 b2 b3 rl e5 e6
  unfold cellsR cellsW at *
  go_enter Tryz.func188, Tryz.ntmps188
  go_upto_region 1 with (fail)
  refine wp_name (fun W1 hW => ?_)
  have B6 := Lib.hid (Blk.new' hW)
  have B4 := Lib.hid ((Blk.new w _ _).alloc' hW)
  have X1 := Lib.hid (((Ext.refl w).alloc _).alloc' hW)
  have BB := Lib.hid (HB.out.ext X1.out)
  simp only [World.size_alloc] at B6
  clear hW HB
  obtain ⟨g4, eg⟩ : ∃ g, w.heap.size = g := ⟨_, rfl⟩
  have EG := Lib.hid eg
  rw [eg] at B6 B4 ⊢
  clear eg
  obtain ⟨g6, e8⟩ : ∃ g, g4 + 1 = g := ⟨_, rfl⟩
  have HG6 := Lib.hid (show w.heap.size ≤ g6 by rw [← e8, EG.out]; exact Nat.le_succ _)
  have HG7 := Lib.hid (show w.heap.size ≤ W1.heap.size from X1.out.below.size)
  rw [e8] at B6 ⊢
  clear e8
  obtain ⟨r1, r2, r3⟩ := B4.out.rules
  obtain ⟨q1, q2, q3⟩ := BB.out.rules
  go_still_tail 11, (by kernel_rfl)
  go_wp2_with fail
  refine (CC.out _ X1.out.drew).mono ?_
  rintro e w3 ⟨⟨x', rfl, N⟩, x3⟩
  obtain ⟨vL, fs, vD, vRe, vWa, vDu, vSn⟩ := x'
  have N3 := Lib.hid (nw_low N HG7.out)
  have X3 := Lib.hid (X1.out.drew.trans x3)
  have B3 := Lib.hid (B6.out.drew.ext x3)
  clear N x3 CC B6 B4 BB X1 r1 r2 r3 q1 q2 q3
  obtain ⟨B1, d1, f1⟩ := N3.out.L.form
  obtain ⟨B2, d2, f2⟩ := N3.out.dead.form
  obtain ⟨B3a, d3, f3⟩ := N3.out.R.re.form
  obtain ⟨B4, d4, f4⟩ := N3.out.R.wa.form
  obtain ⟨B5, d5, f5⟩ := N3.out.R.du.form
  obtain ⟨B6, d6, f6⟩ := N3.out.R.sn.form
  replace f1 : vL = .slice B1 S.L.length d1 := f1
  replace f2 : vD = .slice B2 S.dead.length d2 := f2
  replace f3 : vRe = .slice B3a R.ready.length d3 := f3
  replace f4 : vWa = .slice B4 R.wait.length d4 := f4
  replace f5 : vDu = .slice B5 R.due.length d5 := f5
  replace f6 : vSn = .slice B6 R.snaps.length d6 := f6
  subst f1 f2 f3 f4 f5 f6
  obtain ⟨r1, r2, r3⟩ := B3.out.rules
  simp only [show (S.worldL last R).last = last from rfl, show (S.worldL last R).R = R from rfl]
  go_wp2_with fail
  refine bodyPost_ret (v := .tuple #[.agg #[.slice B1 S.L.length d1, .slice B2 S.dead.length d2, .int .i64 last, .int .i64 R.proc, .int .i64 R.frame, .slice B3a R.ready.length d3, .slice B4 R.wait.length d4, .slice B5 R.due.length d5, .string R.out, .string R.inp, .int .i64 R.how, .int .i64 R.exit, .slice B6 R.snaps.length d6], .bool true]) (by simp [results, Tryz.results188, go_sem, r1, r3]) rfl ?_
  have K := keepG13 w3 g6 (.slice B1 S.L.length d1) (.slice B2 S.dead.length d2) (.int .i64 last) (.int .i64 R.proc) (.int .i64 R.frame) (.slice B3a R.ready.length d3) (.slice B4 R.wait.length d4) (.slice B5 R.due.length d5) (.string R.out) (.string R.inp) (.int .i64 R.how) (.int .i64 R.exit) (.slice B6 R.snaps.length d6)
  have XF := extG13 (g := g6) X3.out HG6.out (.slice B1 S.L.length d1) (.slice B2 S.dead.length d2) (.int .i64 last) (.int .i64 R.proc) (.int .i64 R.frame) (.slice B3a R.ready.length d3) (.slice B4 R.wait.length d4) (.slice B5 R.due.length d5) (.string R.out) (.string R.inp) (.int .i64 R.how) (.int .i64 R.exit) (.slice B6 R.snaps.length d6)
  have kt : KT [31] w3 _ := K.mono (fun j e => by subst e; exact ⟨_, _, List.mem_singleton.2 rfl, B3.out⟩)
  exact ⟨⟨⟨.slice B1 S.L.length d1, fs, .slice B2 S.dead.length d2, .slice B3a R.ready.length d3, .slice B4 R.wait.length d4, .slice B5 R.due.length d5, .slice B6 R.snaps.length d6⟩, rfl, nw_kt N3.out kt (by decide) (by decide) (by decide) (by decide) (by decide) (by decide)⟩, XF⟩
set_option maxRecDepth 100000 in
set_option maxHeartbeats 8000000 in
theorem msave (h : M w F m S) (hr : okRB S.R = true) : Calls Tryz.prog 41 #[.pointer (some ⟨m, 0, none⟩)] w fun e w' => (∃ x', e = .returned (.tuple #[.agg (cellsW (S.worldL S.last S.R) x'), .bool true]) ∧ NewW w' w.heap.size (S.worldL S.last S.R) x') ∧ Ext w w' := by
  obtain ⟨X, hX⟩ := h
  have wf := hX.wf
  have rl := okR_len hr
  have hl : 0 ≤ S.last ∧ S.last ≤ 1000000 := by have := wf.len; have := wf.last; omega
  have RA : RegsAt w S.R X.re X.wa X.du X.sn := hX.R.at_ ⟨by omega, by omega, by omega, by omega⟩
  have CR := Lib.hid (fun W (x : Ext w W) => (RA.ext x).regs)
  have CW : Hid (∀ W, Ext w W → ∀ re wa du sn, RegsAt W S.R re wa du sn → Calls Tryz.prog 188 #[.pointer (some ⟨X.bt, 0, none⟩), .agg #[.int .i64 S.R.proc, .int .i64 S.R.frame, re, wa, du, .string S.R.out, .string S.R.inp, .int .i64 S.R.how, .int .i64 S.R.exit, sn], .int .i64 S.last] W fun e w' => (∃ C1 d1 fs C2 d2 C3 d3 C4 d4 C5 d5 C6 d6, e = .returned (.tuple #[.agg #[.slice C1 S.L.length d1, .slice C2 S.dead.length d2, .int .i64 S.last, .int .i64 S.R.proc, .int .i64 S.R.frame, .slice C3 S.R.ready.length d3, .slice C4 S.R.wait.length d4, .slice C5 S.R.due.length d5, .string S.R.out, .string S.R.inp, .int .i64 S.R.how, .int .i64 S.R.exit, .slice C6 S.R.snaps.length d6], .bool true]) ∧ NewW w' W.heap.size (S.worldL S.last S.R) ⟨.slice C1 S.L.length d1, fs, .slice C2 S.dead.length d2, .slice C3 S.R.ready.length d3, .slice C4 S.R.wait.length d4, .slice C5 S.R.due.length d5, .slice C6 S.R.snaps.length d6⟩) ∧ Ext W w') := Lib.hid (fun W x re wa du sn r => (tworld (hX.ext x).ts wf hl hr r).mono (by
    rintro e w' ⟨⟨x', rfl, N8⟩, x8⟩
    obtain ⟨vL, fs, vD, vRe, vWa, vDu, vSn⟩ := x'
    obtain ⟨C1, d1, f1⟩ := N8.L.form
    obtain ⟨C2, d2, f2⟩ := N8.dead.form
    obtain ⟨C3, d3, f3⟩ := N8.R.re.form
    obtain ⟨C4, d4, f4⟩ := N8.R.wa.form
    obtain ⟨C5, d5, f5⟩ := N8.R.du.form
    obtain ⟨C6, d6, f6⟩ := N8.R.sn.form
    replace f1 : vL = .slice C1 S.L.length d1 := f1
    replace f2 : vD = .slice C2 S.dead.length d2 := f2
    replace f3 : vRe = .slice C3 S.R.ready.length d3 := f3
    replace f4 : vWa = .slice C4 S.R.wait.length d4 := f4
    replace f5 : vDu = .slice C5 S.R.due.length d5 := f5
    replace f6 : vSn = .slice C6 S.R.snaps.length d6 := f6
    subst f1 f2 f3 f4 f5 f6
    exact ⟨⟨C1, d1, fs, C2, d2, C3, d3, C4, d4, C5, d5, C6, d6, rfl, N8⟩, x8⟩))
  have FT := Lib.hid RA.fit
  obtain ⟨A1, c1, e1⟩ := hX.R.re.form
  obtain ⟨A2, c2, e2⟩ := hX.R.wa.form
  obtain ⟨A3, c3, e3⟩ := hX.R.du.form
  obtain ⟨A4, c4, e4⟩ := hX.R.sn.form
  have HB := Lib.hid hX.bm
  unfold cellsM at HB
  rw [e1, e2, e3, e4] at HB CR
  have lt := hX.bm.lt
  clear hX wf rl hl RA e1 e2 e3 e4 hr
  unfold cellsR cellsW at *
  go_enter Tryz.func41, Tryz.ntmps41
  go_upto_region 1 with (fail)
  refine wp_name (fun W1 hW => ?_)
  have B2 := Lib.hid (Blk.new' hW)
  have X1 := Lib.hid ((Ext.refl w).alloc' hW)
  have BM := Lib.hid (HB.out.ext X1.out)
  have NE : Hid (m ≠ w.heap.size) := Lib.hid (by omega)
  clear hW HB lt
  obtain ⟨g2, eg⟩ : ∃ g, w.heap.size = g := ⟨_, rfl⟩
  have HG2 := Lib.hid (show w.heap.size ≤ g2 by rw [eg]; exact Nat.le_refl _)
  have HG3 := Lib.hid (show w.heap.size ≤ W1.heap.size from X1.out.below.size)
  rw [eg] at B2 NE ⊢
  have EG := Lib.hid eg
  clear eg
  have ne1 := NE.out
  have ne2 := NE.out.symm
  have Q := Lib.hid (fun (W2 : World) (E : Ext W1 W2) (k : Nat) => (BM.out.ext E).cell k)
  obtain ⟨r1, r2, r3⟩ := B2.out.rules
  obtain ⟨q1, q2, q3⟩ := BM.out.rules
  have QQ : Hid (∀ W2, Ext W1 W2 → W2.cell? ⟨m, 0, none⟩ = some (.iface 70 (.pointer (some ⟨X.bt, 0, none⟩))) ∧ W2.cell? ⟨m, 1, none⟩ = some (.int .i64 S.R.proc) ∧ W2.cell? ⟨m, 2, none⟩ = some (.int .i64 S.R.frame) ∧ W2.cell? ⟨m, 3, none⟩ = some (.slice A1 S.R.ready.length c1) ∧ W2.cell? ⟨m, 4, none⟩ = some (.slice A2 S.R.wait.length c2) ∧ W2.cell? ⟨m, 5, none⟩ = some (.slice A3 S.R.due.length c3) ∧ W2.cell? ⟨m, 6, none⟩ = some (.string S.R.out) ∧ W2.cell? ⟨m, 7, none⟩ = some (.string S.R.inp) ∧ W2.cell? ⟨m, 8, none⟩ = some (.int .i64 S.R.how) ∧ W2.cell? ⟨m, 9, none⟩ = some (.int .i64 S.R.exit) ∧ W2.cell? ⟨m, 10, none⟩ = some (.slice A4 S.R.snaps.length c4) ∧ W2.cell? ⟨m, 11, none⟩ = some (.int .i64 S.last)) := Lib.hid (fun W2 E => ⟨Q.out _ E 0, Q.out _ E 1, Q.out _ E 2, Q.out _ E 3, Q.out _ E 4, Q.out _ E 5, Q.out _ E 6, Q.out _ E 7, Q.out _ E 8, Q.out _ E 9, Q.out _ E 10, Q.out _ E 11⟩)
  have LT1 := Lib.hid BM.out.lt
  have KS : Hid (∀ W2, Ext W1 W2 → ∀ x0 x1 x2 x3 x4 x5 x6 x7 x8 x9 x10 x11 x12 : Value, (((((((((((((W2.setCell ⟨g2, 0, none⟩ x0).setCell ⟨g2, 1, none⟩ x1).setCell ⟨g2, 2, none⟩ x2).setCell ⟨g2, 3, none⟩ x3).setCell ⟨g2, 4, none⟩ x4).setCell ⟨g2, 5, none⟩ x5).setCell ⟨g2, 6, none⟩ x6).setCell ⟨g2, 7, none⟩ x7).setCell ⟨g2, 8, none⟩ x8).setCell ⟨g2, 9, none⟩ x9).setCell ⟨g2, 10, none⟩ x10).setCell ⟨g2, 11, none⟩ x11).setCell ⟨g2, 12, none⟩ x12).cell? ⟨m, 0, none⟩ = some (.iface 70 (.pointer (some ⟨X.bt, 0, none⟩))) ∧ (((((((((((((W2.setCell ⟨g2, 0, none⟩ x0).setCell ⟨g2, 1, none⟩ x1).setCell ⟨g2, 2, none⟩ x2).setCell ⟨g2, 3, none⟩ x3).setCell ⟨g2, 4, none⟩ x4).setCell ⟨g2, 5, none⟩ x5).setCell ⟨g2, 6, none⟩ x6).setCell ⟨g2, 7, none⟩ x7).setCell ⟨g2, 8, none⟩ x8).setCell ⟨g2, 9, none⟩ x9).setCell ⟨g2, 10, none⟩ x10).setCell ⟨g2, 11, none⟩ x11).setCell ⟨g2, 12, none⟩ x12).cell? ⟨m, 1, none⟩ = some (.int .i64 S.R.proc) ∧ (((((((((((((W2.setCell ⟨g2, 0, none⟩ x0).setCell ⟨g2, 1, none⟩ x1).setCell ⟨g2, 2, none⟩ x2).setCell ⟨g2, 3, none⟩ x3).setCell ⟨g2, 4, none⟩ x4).setCell ⟨g2, 5, none⟩ x5).setCell ⟨g2, 6, none⟩ x6).setCell ⟨g2, 7, none⟩ x7).setCell ⟨g2, 8, none⟩ x8).setCell ⟨g2, 9, none⟩ x9).setCell ⟨g2, 10, none⟩ x10).setCell ⟨g2, 11, none⟩ x11).setCell ⟨g2, 12, none⟩ x12).cell? ⟨m, 2, none⟩ = some (.int .i64 S.R.frame) ∧ (((((((((((((W2.setCell ⟨g2, 0, none⟩ x0).setCell ⟨g2, 1, none⟩ x1).setCell ⟨g2, 2, none⟩ x2).setCell ⟨g2, 3, none⟩ x3).setCell ⟨g2, 4, none⟩ x4).setCell ⟨g2, 5, none⟩ x5).setCell ⟨g2, 6, none⟩ x6).setCell ⟨g2, 7, none⟩ x7).setCell ⟨g2, 8, none⟩ x8).setCell ⟨g2, 9, none⟩ x9).setCell ⟨g2, 10, none⟩ x10).setCell ⟨g2, 11, none⟩ x11).setCell ⟨g2, 12, none⟩ x12).cell? ⟨m, 3, none⟩ = some (.slice A1 S.R.ready.length c1) ∧ (((((((((((((W2.setCell ⟨g2, 0, none⟩ x0).setCell ⟨g2, 1, none⟩ x1).setCell ⟨g2, 2, none⟩ x2).setCell ⟨g2, 3, none⟩ x3).setCell ⟨g2, 4, none⟩ x4).setCell ⟨g2, 5, none⟩ x5).setCell ⟨g2, 6, none⟩ x6).setCell ⟨g2, 7, none⟩ x7).setCell ⟨g2, 8, none⟩ x8).setCell ⟨g2, 9, none⟩ x9).setCell ⟨g2, 10, none⟩ x10).setCell ⟨g2, 11, none⟩ x11).setCell ⟨g2, 12, none⟩ x12).cell? ⟨m, 4, none⟩ = some (.slice A2 S.R.wait.length c2) ∧ (((((((((((((W2.setCell ⟨g2, 0, none⟩ x0).setCell ⟨g2, 1, none⟩ x1).setCell ⟨g2, 2, none⟩ x2).setCell ⟨g2, 3, none⟩ x3).setCell ⟨g2, 4, none⟩ x4).setCell ⟨g2, 5, none⟩ x5).setCell ⟨g2, 6, none⟩ x6).setCell ⟨g2, 7, none⟩ x7).setCell ⟨g2, 8, none⟩ x8).setCell ⟨g2, 9, none⟩ x9).setCell ⟨g2, 10, none⟩ x10).setCell ⟨g2, 11, none⟩ x11).setCell ⟨g2, 12, none⟩ x12).cell? ⟨m, 5, none⟩ = some (.slice A3 S.R.due.length c3) ∧ (((((((((((((W2.setCell ⟨g2, 0, none⟩ x0).setCell ⟨g2, 1, none⟩ x1).setCell ⟨g2, 2, none⟩ x2).setCell ⟨g2, 3, none⟩ x3).setCell ⟨g2, 4, none⟩ x4).setCell ⟨g2, 5, none⟩ x5).setCell ⟨g2, 6, none⟩ x6).setCell ⟨g2, 7, none⟩ x7).setCell ⟨g2, 8, none⟩ x8).setCell ⟨g2, 9, none⟩ x9).setCell ⟨g2, 10, none⟩ x10).setCell ⟨g2, 11, none⟩ x11).setCell ⟨g2, 12, none⟩ x12).cell? ⟨m, 6, none⟩ = some (.string S.R.out) ∧ (((((((((((((W2.setCell ⟨g2, 0, none⟩ x0).setCell ⟨g2, 1, none⟩ x1).setCell ⟨g2, 2, none⟩ x2).setCell ⟨g2, 3, none⟩ x3).setCell ⟨g2, 4, none⟩ x4).setCell ⟨g2, 5, none⟩ x5).setCell ⟨g2, 6, none⟩ x6).setCell ⟨g2, 7, none⟩ x7).setCell ⟨g2, 8, none⟩ x8).setCell ⟨g2, 9, none⟩ x9).setCell ⟨g2, 10, none⟩ x10).setCell ⟨g2, 11, none⟩ x11).setCell ⟨g2, 12, none⟩ x12).cell? ⟨m, 7, none⟩ = some (.string S.R.inp) ∧ (((((((((((((W2.setCell ⟨g2, 0, none⟩ x0).setCell ⟨g2, 1, none⟩ x1).setCell ⟨g2, 2, none⟩ x2).setCell ⟨g2, 3, none⟩ x3).setCell ⟨g2, 4, none⟩ x4).setCell ⟨g2, 5, none⟩ x5).setCell ⟨g2, 6, none⟩ x6).setCell ⟨g2, 7, none⟩ x7).setCell ⟨g2, 8, none⟩ x8).setCell ⟨g2, 9, none⟩ x9).setCell ⟨g2, 10, none⟩ x10).setCell ⟨g2, 11, none⟩ x11).setCell ⟨g2, 12, none⟩ x12).cell? ⟨m, 8, none⟩ = some (.int .i64 S.R.how) ∧ (((((((((((((W2.setCell ⟨g2, 0, none⟩ x0).setCell ⟨g2, 1, none⟩ x1).setCell ⟨g2, 2, none⟩ x2).setCell ⟨g2, 3, none⟩ x3).setCell ⟨g2, 4, none⟩ x4).setCell ⟨g2, 5, none⟩ x5).setCell ⟨g2, 6, none⟩ x6).setCell ⟨g2, 7, none⟩ x7).setCell ⟨g2, 8, none⟩ x8).setCell ⟨g2, 9, none⟩ x9).setCell ⟨g2, 10, none⟩ x10).setCell ⟨g2, 11, none⟩ x11).setCell ⟨g2, 12, none⟩ x12).cell? ⟨m, 9, none⟩ = some (.int .i64 S.R.exit) ∧ (((((((((((((W2.setCell ⟨g2, 0, none⟩ x0).setCell ⟨g2, 1, none⟩ x1).setCell ⟨g2, 2, none⟩ x2).setCell ⟨g2, 3, none⟩ x3).setCell ⟨g2, 4, none⟩ x4).setCell ⟨g2, 5, none⟩ x5).setCell ⟨g2, 6, none⟩ x6).setCell ⟨g2, 7, none⟩ x7).setCell ⟨g2, 8, none⟩ x8).setCell ⟨g2, 9, none⟩ x9).setCell ⟨g2, 10, none⟩ x10).setCell ⟨g2, 11, none⟩ x11).setCell ⟨g2, 12, none⟩ x12).cell? ⟨m, 10, none⟩ = some (.slice A4 S.R.snaps.length c4) ∧ (((((((((((((W2.setCell ⟨g2, 0, none⟩ x0).setCell ⟨g2, 1, none⟩ x1).setCell ⟨g2, 2, none⟩ x2).setCell ⟨g2, 3, none⟩ x3).setCell ⟨g2, 4, none⟩ x4).setCell ⟨g2, 5, none⟩ x5).setCell ⟨g2, 6, none⟩ x6).setCell ⟨g2, 7, none⟩ x7).setCell ⟨g2, 8, none⟩ x8).setCell ⟨g2, 9, none⟩ x9).setCell ⟨g2, 10, none⟩ x10).setCell ⟨g2, 11, none⟩ x11).setCell ⟨g2, 12, none⟩ x12).cell? ⟨m, 11, none⟩ = some (.int .i64 S.last)) := Lib.hid (fun W2 E x0 x1 x2 x3 x4 x5 x6 x7 x8 x9 x10 x11 x12 => by
    have K := keepG13 W2 g2 x0 x1 x2 x3 x4 x5 x6 x7 x8 x9 x10 x11 x12
    have B := (BM.out.ext E).keep K NE.out
    exact ⟨B.cell 0, B.cell 1, B.cell 2, B.cell 3, B.cell 4, B.cell 5, B.cell 6, B.cell 7, B.cell 8, B.cell 9, B.cell 10, B.cell 11⟩)
  go_region_held3 (fun w' => w'.cell? ⟨m, 0, none⟩ = some (.iface 70 (.pointer (some ⟨X.bt, 0, none⟩))) ∧ w'.cell? ⟨m, 1, none⟩ = some (.int .i64 S.R.proc) ∧ w'.cell? ⟨m, 2, none⟩ = some (.int .i64 S.R.frame) ∧ w'.cell? ⟨m, 3, none⟩ = some (.slice A1 S.R.ready.length c1) ∧ w'.cell? ⟨m, 4, none⟩ = some (.slice A2 S.R.wait.length c2) ∧ w'.cell? ⟨m, 5, none⟩ = some (.slice A3 S.R.due.length c3) ∧ w'.cell? ⟨m, 6, none⟩ = some (.string S.R.out) ∧ w'.cell? ⟨m, 7, none⟩ = some (.string S.R.inp) ∧ w'.cell? ⟨m, 8, none⟩ = some (.int .i64 S.R.how) ∧ w'.cell? ⟨m, 9, none⟩ = some (.int .i64 S.R.exit) ∧ w'.cell? ⟨m, 10, none⟩ = some (.slice A4 S.R.snaps.length c4) ∧ w'.cell? ⟨m, 11, none⟩ = some (.int .i64 S.last))
    (first | with_reducible exact KS.out _ X8 _ _ _ _ _ _ _ _ _ _ _ _ _ | with_reducible exact QQ.out _ X8 | with_reducible exact QQ.out _ X7 | with_reducible exact QQ.out _ ((Ext.refl W1).drew) | with_reducible exact QQ.out _ (Ext.refl W1))
    (first
      | (go_at_call 188; refine (CW.out _ (X1.out.trans X7) _ _ _ _ N7).mono ?_; rintro e w8 ⟨⟨C1, d1, fs, C2, d2, C3, d3, C4, d4, C5, d5, C6, d6, rfl, N8⟩, x8⟩; have X8 := X7.trans x8; obtain ⟨s1, s2, s3⟩ := (B2.out.ext X8).rules)
      | (go_at_call 26; refine (CR.out _ (X1.out.trans ((Ext.refl W1).drew))).mono ?_; rintro e w7 ⟨⟨re', wa', du', sn', rfl, n7⟩, x7⟩; have N7 := n7.at_ FT.out; have X7 := ((Ext.refl W1).drew).trans x7))
  have N9 := Lib.hid (nw_low N8 (show w.heap.size ≤ w7.heap.size from Nat.le_trans HG3.out X7.below.size))
  have X9 := Lib.hid (X1.out.trans X8)
  have B9 := Lib.hid (B2.out.ext X8)
  clear N8 X8 X7 N7 n7 QQ KS CW CR BM Q
  go_wp2_with fail
  refine bodyPost_ret (v := .tuple #[.agg #[.slice C1 S.L.length d1, .slice C2 S.dead.length d2, .int .i64 S.last, .int .i64 S.R.proc, .int .i64 S.R.frame, .slice C3 S.R.ready.length d3, .slice C4 S.R.wait.length d4, .slice C5 S.R.due.length d5, .string S.R.out, .string S.R.inp, .int .i64 S.R.how, .int .i64 S.R.exit, .slice C6 S.R.snaps.length d6], .bool true]) (by simp [results, Tryz.results41, go_sem, s1, s3]) rfl ?_
  have K := keepG13 w8 g2 (.slice C1 S.L.length d1) (.slice C2 S.dead.length d2) (.int .i64 S.last) (.int .i64 S.R.proc) (.int .i64 S.R.frame) (.slice C3 S.R.ready.length d3) (.slice C4 S.R.wait.length d4) (.slice C5 S.R.due.length d5) (.string S.R.out) (.string S.R.inp) (.int .i64 S.R.how) (.int .i64 S.R.exit) (.slice C6 S.R.snaps.length d6)
  have XF := extG13 (g := g2) X9.out HG2.out (.slice C1 S.L.length d1) (.slice C2 S.dead.length d2) (.int .i64 S.last) (.int .i64 S.R.proc) (.int .i64 S.R.frame) (.slice C3 S.R.ready.length d3) (.slice C4 S.R.wait.length d4) (.slice C5 S.R.due.length d5) (.string S.R.out) (.string S.R.inp) (.int .i64 S.R.how) (.int .i64 S.R.exit) (.slice C6 S.R.snaps.length d6)
  have kt : KT [31] w8 _ := K.mono (fun j e => by subst e; exact ⟨_, _, List.mem_singleton.2 rfl, B9.out⟩)
  exact ⟨⟨⟨.slice C1 S.L.length d1, fs, .slice C2 S.dead.length d2, .slice C3 S.R.ready.length d3, .slice C4 S.R.wait.length d4, .slice C5 S.R.due.length d5, .slice C6 S.R.snaps.length d6⟩, rfl, nw_kt N9.out kt (by decide) (by decide) (by decide) (by decide) (by decide) (by decide)⟩, XF⟩
end
end Go.Proofs.YtjpalcejmloocaaGreat.World
