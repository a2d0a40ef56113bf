/-
  RefCopy, as one text (a claim has at most 60 files).
-/
import Derived.Test.YtadhkmplhgcgkaaMc09
import Derived.Test.YtadhkmplhgcgkaaMc10
namespace Go.Proofs.Ytadhkmplhgcgkaa.World
open Go.RowKit Go.Proofs.Ytadhkmplhgcgkaa.Plain
set_option linter.unusedVariables false
attribute [local go_sem ↓] Go.wp_at_zero Go.wp_at_succ
theorem infoB' : (Try.prog.info? 4).map (fun i => (i.zero, i.size, i.bytes)) = some (some (.bool false), 1, 1) := by kernel_rfl
theorem infoV' : (Try.prog.info? 37).map (fun i => (i.zero, i.size, i.bytes)) = some (some (.agg #[.bool false, .int .i64 0]), 2, 16) := by kernel_rfl
def OwnD (w : World) (base : Nat) (W : PW) (v : Value) : Prop := Own w base 4 v W.dead.length 1 (cB W.dead)
structure CJ (w0 : World) (q pb : Nat) (W : PW) (vL vD re wa du sn : Value) (L : Nat → Bool) (s : Nat → Value) (w : World) : Prop where
  x : Ext w0 w
  bx : Blk w q 31 (cellsC W vL vD re wa du sn)
  bp : Blk w pb 31 zeroW
  k10 : L 10 = true → L 9 = true
  p0 : L 0 = true → s 6 = .pointer (some ⟨q, 1, none⟩)
  l1 : L 1 = true → s 7 = vD
  a2 : L 2 = true → OwnD w w0.heap.size W (s 8)
  p3 : L 3 = true → s 9 = .pointer (some ⟨q, 2, none⟩)
  l4 : L 4 = true → s 10 = .int .i64 W.last
  p5 : L 5 = true → s 11 = .pointer (some ⟨q, 3, none⟩)
  l6 : L 6 = true → s 12 = .agg (cellsR W.R re wa du sn)
  c7 : L 7 = true → ∃ re' wa' du' sn', s 13 = .agg (cellsR W.R re' wa' du' sn') ∧ RegsNew w w0.heap.size W.R re' wa' du' sn'
  b8 : L 8 = true → ∃ vD' re' wa' du' sn', s 14 = .agg (cellsC W (.slice none 0 0) vD' re' wa' du' sn') ∧ OwnD w w0.heap.size W vD' ∧ RegsNew w w0.heap.size W.R re' wa' du' sn'
  a9 : L 9 = true → L 10 = false → ∃ ob, s 3 = .pointer (some ⟨ob, 0, none⟩) ∧ w0.heap.size ≤ ob ∧ ob ≠ q ∧ ob ≠ pb ∧ Blk w ob 31 zeroW
  e10 : L 10 = true → ∃ ob vD' re' wa' du' sn', s 3 = .pointer (some ⟨ob, 0, none⟩) ∧ w0.heap.size ≤ ob ∧ ob ≠ q ∧ ob ≠ pb ∧ Blk w ob 31 (cellsC W (.slice none 0 0) vD' re' wa' du' sn') ∧ OwnD w w0.heap.size W vD' ∧ RegsNew w w0.heap.size W.R re' wa' du' sn'
theorem OwnD.ext {w w' : World} {base : Nat} {W : PW} {v : Value} (h : OwnD w base W v) (x : Ext w w') : OwnD w' base W v := Own.ext h x
theorem OwnD.kt {w w' : World} {base : Nat} {W : PW} {v : Value} {ts : List TypeId} (h : OwnD w base W v) (k : KT ts w w') (hn : 4 ∉ ts) : OwnD w' base W v := Own.kt h k hn
theorem CJ.ext {w0 w w' : World} {q pb : Nat} {W : PW} {vL vD re wa du sn : Value} {L : Nat → Bool} {s : Nat → Value} (I : CJ w0 q pb W vL vD re wa du sn L s w) (y : Ext w w') : CJ w0 q pb W vL vD re wa du sn L s w' := by
  refine ⟨I.x.trans y, I.bx.ext y, I.bp.ext y, I.k10, I.p0, I.l1, fun h => (I.a2 h).ext y, I.p3, I.l4, I.p5, I.l6, fun h => ?_, fun h => ?_, fun h h' => ?_, fun h => ?_⟩
  · obtain ⟨r, w1, d, n, e, N⟩ := I.c7 h; exact ⟨r, w1, d, n, e, N.ext y⟩
  · obtain ⟨v, r, w1, d, n, e, D, N⟩ := I.b8 h; exact ⟨v, r, w1, d, n, e, D.ext y, N.ext y⟩
  · obtain ⟨ob, e, h1, h2, h3, h4⟩ := I.a9 h h'; exact ⟨ob, e, h1, h2, h3, h4.ext y⟩
  · obtain ⟨ob, v, r, w1, d, n, e, h1, h2, h3, h4, D, N⟩ := I.e10 h; exact ⟨ob, v, r, w1, d, n, e, h1, h2, h3, h4.ext y, D.ext y, N.ext y⟩
def frameJ (W : PW) (vL vD re wa du sn : Value) (q pb : Nat) (s : Nat → Value) : Act := { tmps := #[.agg (cellsC W vL vD re wa du sn), .pointer (some ⟨q, 0, none⟩), .pointer (some ⟨pb, 0, none⟩), s 3, undef, undef, s 6, s 7, s 8, s 9, s 10, s 11, s 12, s 13, s 14, undef, undef, undef, undef, undef, undef, undef, undef, undef, undef, undef, undef, undef, undef, undef, undef, undef, undef, undef, undef, undef, undef, undef], defers := [] }
def CJnv (w0 : World) (q pb : Nat) (W : PW) (vL vD re wa du sn : Value) (listed : Array Bool) (a : Act) (w : World) : Prop :=
  ∃ L : Nat → Bool, (∀ k, listed.getD k false = L k) ∧ ∃ s : Nat → Value, a = frameJ W vL vD re wa du sn q pb s ∧ listed.size = 11 ∧ CJ w0 q pb W vL vD re wa du sn L s w
section
variable {w : World} {x : WV} {W : PW}
set_option maxRecDepth 100000 in
set_option maxHeartbeats 8000000 in
theorem rcopy (h : WorldAt w x W) (m0 : W.L.length ≤ 1000000) (m5 : W.dead.length ≤ 1000000) (m1 : W.R.ready.length ≤ 1000000) (m2 : W.R.wait.length ≤ 1000000) (m3 : W.R.due.length ≤ 1000000) (m4 : W.R.snaps.length ≤ 1000000) (m6 : ∀ i, i < W.L.length → (tAt W.L i).F.length ≤ 1000000) :
    Calls Try.prog 43 #[.agg (cellsW W x)] w fun e w' => (∃ x', e = .returned (.agg (cellsW W x')) ∧ NewW w' w.heap.size W x') ∧ Ext w w' := by
  have HH := Lib.hid h
  obtain ⟨vL, fs, vD, vRe, vWa, vDu, vSn⟩ := x
  obtain ⟨A1, c1, e1, l1, l1'⟩ := h.L.row.form
  have e1 : vL = .slice A1 W.L.length c1 := e1
  subst e1
  obtain ⟨A2, c2, e2, l2, l2'⟩ := Row.form h.dead
  have e2 : vD = .slice A2 W.dead.length c2 := e2
  subst e2
  obtain ⟨A3, c3, e3, l3, l3'⟩ := Row.form h.ready
  have e3 : vRe = .slice A3 W.R.ready.length c3 := e3
  subst e3
  obtain ⟨A4, c4, e4, l4, l4'⟩ := Row.form h.wait
  have e4 : vWa = .slice A4 W.R.wait.length c4 := e4
  subst e4
  obtain ⟨A5, c5, e5, l5, l5'⟩ := Row.form h.due
  have e5 : vDu = .slice A5 W.R.due.length c5 := e5
  subst e5
  obtain ⟨A6, c6, e6, l6, l6'⟩ := Row.form h.snaps
  have e6 : vSn = .slice A6 W.R.snaps.length c6 := e6
  subst e6
  have CR := Lib.hid (fun w' (e : Ext w w') => rcopyRegs (R := W.R) (h.ready.ext e) (h.wait.ext e) (h.due.ext e) (h.snaps.ext e) m1 m2 m3 m4)
  unfold cellsR at CR
  have hDead := Lib.hid h.dead
  clear h
  unfold cellsW
  go_enter Try.func43, Try.ntmps43
  go_wp2_with fail
  refine wp_name (fun W1 hW => ?_)
  have BX : Blk W1 w.heap.size 31 (cellsW W ⟨.slice A1 W.L.length c1, fs, .slice A2 W.dead.length c2, .slice A3 W.R.ready.length c3, .slice A4 W.R.wait.length c4, .slice A5 W.R.due.length c5, .slice A6 W.R.snaps.length c6⟩) := (Blk.new w _ _).alloc' hW
  have BP := Blk.new' hW
  have X1 := ((Ext.refl w).alloc _).alloc' hW
  simp only [World.size_alloc] at BP
  clear hW
  have hqp : w.heap.size ≤ w.heap.size ∧ w.heap.size ≤ w.heap.size + 1 := by omega
  have LQ := BX.lt
  have LP := BP.lt
  generalize hq : w.heap.size = q at *
  have hqw : w.heap.size ≤ q := by omega
  have hpbw : w.heap.size ≤ q + 1 := by omega
  clear hq
  have hpb : q + 1 ≠ q := by omega
  generalize q + 1 = pb at *
  obtain ⟨iB, hB, hB0, hB1, hB2⟩ := info_parts infoB'
  refine wp_region_inv (Inv := CJnv w q pb W (.slice A1 W.L.length c1) (.slice A2 W.dead.length c2) (.slice A3 W.R.ready.length c3) (.slice A4 W.R.wait.length c4) (.slice A5 W.R.due.length c5) (.slice A6 W.R.snaps.length c6)) (by kernel_rfl) ?_ ?_ ?_
  · refine ⟨fun _ => false, fun k => ?_, fun _ => undef, rfl, by simp, ⟨X1.drew, BX.drew, BP.drew, ?_, ?_, ?_, ?_, ?_, ?_, ?_, ?_, ?_, ?_, ?_, ?_⟩⟩
    · rw [Array.getD_eq_getD_getElem?, Array.getElem?_replicate]; split <;> rfl
    all_goals (intro h; cases h)
  · rintro listed a w2 i ⟨L, hL, s, rfl, hsz, I⟩ hi
    obtain ⟨hlt, hnot, hdep⟩ := (ready_iff _ _).1 hi
    have hi12 : i < 11 := hlt
    have cases12 : i = 0 ∨ i = 1 ∨ i = 2 ∨ i = 3 ∨ i = 4 ∨ i = 5 ∨ i = 6 ∨ i = 7 ∨ i = 8 ∨ i = 9 ∨ i = 10 := by omega
    have hn0 : L i = false := by rw [← hL i]; exact not_bit hnot
    have R1 := Lib.hid I.bx.cell
    have hw0 := I.x.below.size
    have lq := I.bx.lt
    have lp := I.bp.lt
    clear hi hlt hi12 hnot
    unfold frameJ
    rcases cases12 with rfl | rfl | rfl | rfl | rfl | rfl | rfl | rfl | rfl | rfl | rfl
    · -- operation 0
      refine wpOp_step rfl (fun K' hK => ?_)
      go_simp
      exact hK _ _ ⟨_, bit_set hL hsz 0 (by omega), fun j => if j = 6 then .pointer (some ⟨q, 1, none⟩) else s j, by simp [frameJ], by simpa using hsz, ⟨I.x, I.bx, I.bp, I.k10, fun _ => rfl, I.l1, I.a2, I.p3, I.l4, I.p5, I.l6, I.c7, I.b8, I.a9, I.e10⟩⟩
    · -- operation 1
      simp [hL, Region.binds] at hdep
      have d0 : L 0 = true := by simp [hdep]
      have es := I.p0 d0
      have hc : w2.cell? ⟨q, 1, none⟩ = some (.slice A2 W.dead.length c2) := R1.out 1
      refine wpOp_step rfl (fun K' hK => ?_)
      rw [es]
      go_simp
      exact hK _ _ ⟨_, bit_set hL hsz 1 (by omega), fun j => if j = 7 then .slice A2 W.dead.length c2 else s j, by simp [frameJ, es], by simpa using hsz, ⟨I.x, I.bx, I.bp, I.k10, I.p0, fun _ => rfl, I.a2, I.p3, I.l4, I.p5, I.l6, I.c7, I.b8, I.a9, I.e10⟩⟩
    · -- operation 2
      simp [hL, Region.binds] at hdep
      have d1 : L 1 = true := by simp [hdep]
      have es := I.l1 d1
      refine wpOp_step rfl (fun K' hK => ?_)
      rw [es]
      refine wp_append_nil (.tmp 7) 25 rfl 4 iB (.bool false) 1 1 Try.underlying25 hB hB0 hB1 hB2 rfl (by decide) (by decide) rfl (Row.ext hDead.out I.x) (fun i j => rfl) m5 ?_
      intro v' w3 o3 x3
      obtain ⟨ab, cb, eb⟩ := Own.form o3
      subst eb
      have J := I.ext x3
      exact hK _ _ ⟨_, bit_set hL hsz 2 (by omega), fun j => if j = 8 then .slice ab W.dead.length cb else s j, by simp [frameJ, es, Act.put], by simpa using hsz, ⟨J.x, J.bx, J.bp, J.k10, J.p0, J.l1, (fun _ => Own.base o3 hw0), J.p3, J.l4, J.p5, J.l6, J.c7, J.b8, J.a9, J.e10⟩⟩
    · -- operation 3
      refine wpOp_step rfl (fun K' hK => ?_)
      go_simp
      exact hK _ _ ⟨_, bit_set hL hsz 3 (by omega), fun j => if j = 9 then .pointer (some ⟨q, 2, none⟩) else s j, by simp [frameJ], by simpa using hsz, ⟨I.x, I.bx, I.bp, I.k10, I.p0, I.l1, I.a2, fun _ => rfl, I.l4, I.p5, I.l6, I.c7, I.b8, I.a9, I.e10⟩⟩
    · -- operation 4
      simp [hL, Region.binds] at hdep
      have d3 : L 3 = true := by simp [hdep]
      have es := I.p3 d3
      have hc : w2.cell? ⟨q, 2, none⟩ = some (.int .i64 W.last) := R1.out 2
      refine wpOp_step rfl (fun K' hK => ?_)
      rw [es]
      go_simp
      exact hK _ _ ⟨_, bit_set hL hsz 4 (by omega), fun j => if j = 10 then .int .i64 W.last else s j, by simp [frameJ, es], by simpa using hsz, ⟨I.x, I.bx, I.bp, I.k10, I.p0, I.l1, I.a2, I.p3, fun _ => rfl, I.p5, I.l6, I.c7, I.b8, I.a9, I.e10⟩⟩
    · -- operation 5
      refine wpOp_step rfl (fun K' hK => ?_)
      go_simp
      exact hK _ _ ⟨_, bit_set hL hsz 5 (by omega), fun j => if j = 11 then .pointer (some ⟨q, 3, none⟩) else s j, by simp [frameJ], by simpa using hsz, ⟨I.x, I.bx, I.bp, I.k10, I.p0, I.l1, I.a2, I.p3, I.l4, fun _ => rfl, I.l6, I.c7, I.b8, I.a9, I.e10⟩⟩
    · -- operation 6
      simp [hL, Region.binds] at hdep
      have d5 : L 5 = true := by simp [hdep]
      have es := I.p5 d5
      have hc0 : w2.cell? ⟨q, 3, none⟩ = some (.int .i64 W.R.proc) := R1.out 3
      have hc1 : w2.cell? ⟨q, 3 + 1, none⟩ = some (.int .i64 W.R.frame) := R1.out 4
      have hc2 : w2.cell? ⟨q, 3 + 2, none⟩ = some (.slice A3 W.R.ready.length c3) := R1.out 5
      have hc3 : w2.cell? ⟨q, 3 + 3, none⟩ = some (.slice A4 W.R.wait.length c4) := R1.out 6
      have hc4 : w2.cell? ⟨q, 3 + 4, none⟩ = some (.slice A5 W.R.due.length c5) := R1.out 7
      have hc5 : w2.cell? ⟨q, 3 + 5, none⟩ = some (.string W.R.out) := R1.out 8
      have hc6 : w2.cell? ⟨q, 3 + 6, none⟩ = some (.string W.R.inp) := R1.out 9
      have hc7 : w2.cell? ⟨q, 3 + 7, none⟩ = some (.int .i64 W.R.how) := R1.out 10
      have hc8 : w2.cell? ⟨q, 3 + 8, none⟩ = some (.int .i64 W.R.exit) := R1.out 11
      have hc9 : w2.cell? ⟨q, 3 + 9, none⟩ = some (.slice A6 W.R.snaps.length c6) := R1.out 12
      simp only [Nat.reduceAdd] at hc1 hc2 hc3 hc4 hc5 hc6 hc7 hc8 hc9
      refine wpOp_step rfl (fun K' hK => ?_)
      rw [es]
      go_simp
      exact hK _ _ ⟨_, bit_set hL hsz 6 (by omega), fun j => if j = 12 then .agg (cellsR W.R (.slice A3 W.R.ready.length c3) (.slice A4 W.R.wait.length c4) (.slice A5 W.R.due.length c5) (.slice A6 W.R.snaps.length c6)) else s j, by simp [frameJ, es, cellsR], by simpa using hsz, ⟨I.x, I.bx, I.bp, I.k10, I.p0, I.l1, I.a2, I.p3, I.l4, I.p5, fun _ => rfl, I.c7, I.b8, I.a9, I.e10⟩⟩
    · -- operation 7
      simp [hL, Region.binds] at hdep
      have d6 : L 6 = true := by simp [hdep]
      have es := I.l6 d6
      refine wpOp_step rfl (fun K' hK => ?_)
      rw [es]
      unfold cellsR
      go_simp
      refine (CR.out _ I.x).mono ?_
      rintro e w3 ⟨⟨re', wa', du', sn', rfl, NR⟩, x3⟩
      have J := I.ext x3
      exact hK _ _ ⟨_, bit_set hL hsz 7 (by omega), fun j => if j = 13 then .agg (cellsR W.R re' wa' du' sn') else s j, by simp [frameJ, es, cellsR], by simpa using hsz, ⟨J.x, J.bx, J.bp, J.k10, J.p0, J.l1, J.a2, J.p3, J.l4, J.p5, J.l6, (fun _ => ⟨re', wa', du', sn', rfl, NR.base hw0⟩), J.b8, J.a9, J.e10⟩⟩
    · -- operation 8
      simp [hL, Region.binds] at hdep
      have d2 : L 2 = true := by simp [hdep]
      have d4 : L 4 = true := by simp [hdep]
      have d7 : L 7 = true := by simp [hdep]
      have OD := I.a2 d2
      obtain ⟨ab, cb, e3⟩ := Own.form OD
      rw [e3] at OD
      have e5 := I.l4 d4
      obtain ⟨re', wa', du', sn', e8, N8⟩ := I.c7 d7
      obtain ⟨a1, k1, v1⟩ := N8.re.form
      obtain ⟨a2, k2, v2⟩ := N8.wa.form
      obtain ⟨a3, k3, v3⟩ := N8.du.form
      obtain ⟨a4, k4, v4⟩ := N8.sn.form
      subst v1 v2 v3 v4
      refine wpOp_step rfl (fun K' hK => ?_)
      rw [e3, e5, e8]
      unfold cellsR
      go_simp
      exact hK _ _ ⟨_, bit_set hL hsz 8 (by omega), fun j => if j = 14 then .agg (cellsC W (.slice none 0 0) (.slice ab W.dead.length cb) (.slice a1 W.R.ready.length k1) (.slice a2 W.R.wait.length k2) (.slice a3 W.R.due.length k3) (.slice a4 W.R.snaps.length k4)) else s j, by simp [frameJ, e3, e5, e8, cellsC, cellsR], by simpa using hsz, ⟨I.x, I.bx, I.bp, I.k10, I.p0, I.l1, I.a2, I.p3, I.l4, I.p5, I.l6, I.c7, (fun _ => ⟨_, _, _, _, _, rfl, OD, N8⟩), I.a9, I.e10⟩⟩
    · -- operation 9
      refine wpOp_step rfl (fun K' hK => ?_)
      go_simp
      have J := I.ext ((Ext.refl w2).alloc (.cells zeroW 31))
      exact hK _ _ ⟨_, bit_set hL hsz 9 (by omega), fun j => if j = 3 then .pointer (some ⟨w2.heap.size, 0, none⟩) else s j, by simp [frameJ], by simpa using hsz, ⟨J.x, J.bx, J.bp, fun _ => rfl, J.p0, J.l1, J.a2, J.p3, J.l4, J.p5, J.l6, J.c7, J.b8, (fun _ _ => ⟨w2.heap.size, rfl, hw0, by omega, by omega, Blk.new _ _ _⟩), (fun h => absurd (I.k10 h) (by rw [hn0]; decide))⟩⟩
    · -- operation 10
      simp [hL, Region.binds] at hdep
      have d9 : L 9 = true := by simp [hdep]
      have d8 : L 8 = true := by simp [hdep]
      obtain ⟨ob, e3, hb3, ne1, ne2, B3⟩ := I.a9 d9 hn0
      obtain ⟨vD', re', wa', du', sn', e14, D15, N15⟩ := I.b8 d8
      obtain ⟨ab, cb, eD⟩ := Own.form D15
      obtain ⟨a1, k1, v1⟩ := N15.re.form
      obtain ⟨a2, k2, v2⟩ := N15.wa.form
      obtain ⟨a3, k3, v3⟩ := N15.du.form
      obtain ⟨a4, k4, v4⟩ := N15.sn.form
      subst v1 v2 v3 v4 eD
      have z0 : w2.cell? ⟨ob, 0, none⟩ = zeroW[0]? := B3.cell 0
      have z1 : w2.cell? ⟨ob, 1, none⟩ = zeroW[1]? := B3.cell 1
      have z2 : w2.cell? ⟨ob, 2, none⟩ = zeroW[2]? := B3.cell 2
      have z3 : w2.cell? ⟨ob, 3, none⟩ = zeroW[3]? := B3.cell 3
      have z4 : w2.cell? ⟨ob, 4, none⟩ = zeroW[4]? := B3.cell 4
      have z5 : w2.cell? ⟨ob, 5, none⟩ = zeroW[5]? := B3.cell 5
      have z6 : w2.cell? ⟨ob, 6, none⟩ = zeroW[6]? := B3.cell 6
      have z7 : w2.cell? ⟨ob, 7, none⟩ = zeroW[7]? := B3.cell 7
      have z8 : w2.cell? ⟨ob, 8, none⟩ = zeroW[8]? := B3.cell 8
      have z9 : w2.cell? ⟨ob, 9, none⟩ = zeroW[9]? := B3.cell 9
      have z10 : w2.cell? ⟨ob, 10, none⟩ = zeroW[10]? := B3.cell 10
      have z11 : w2.cell? ⟨ob, 11, none⟩ = zeroW[11]? := B3.cell 11
      have z12 : w2.cell? ⟨ob, 12, none⟩ = zeroW[12]? := B3.cell 12
      simp [zeroW] at z0 z1 z2 z3 z4 z5 z6 z7 z8 z9 z10 z11 z12
      have zf := B3.frozen
      have zl := B3.lt
      refine wpOp_step rfl (fun K' hK => ?_)
      rw [e3, e14]
      unfold cellsC
      go_simp
      have KE := (((((((((((((Keep.refl (· = ob) w2).setCell (p := ⟨ob, 0, none⟩) rfl (.slice none 0 0)).setCell (p := ⟨ob, 1, none⟩) rfl (.slice ab W.dead.length cb)).setCell (p := ⟨ob, 2, none⟩) rfl (.int .i64 W.last)).setCell (p := ⟨ob, 3, none⟩) rfl (.int .i64 W.R.proc)).setCell (p := ⟨ob, 4, none⟩) rfl (.int .i64 W.R.frame)).setCell (p := ⟨ob, 5, none⟩) rfl (.slice a1 W.R.ready.length k1)).setCell (p := ⟨ob, 6, none⟩) rfl (.slice a2 W.R.wait.length k2)).setCell (p := ⟨ob, 7, none⟩) rfl (.slice a3 W.R.due.length k3)).setCell (p := ⟨ob, 8, none⟩) rfl (.string W.R.out)).setCell (p := ⟨ob, 9, none⟩) rfl (.string W.R.inp)).setCell (p := ⟨ob, 10, none⟩) rfl (.int .i64 W.R.how)).setCell (p := ⟨ob, 11, none⟩) rfl (.int .i64 W.R.exit)).setCell (p := ⟨ob, 12, none⟩) rfl (.slice a4 W.R.snaps.length k4)
      have BE := (((((((((((((B3).set 0 (.slice none 0 0)).set 1 (.slice ab W.dead.length cb)).set 2 (.int .i64 W.last)).set 3 (.int .i64 W.R.proc)).set 4 (.int .i64 W.R.frame)).set 5 (.slice a1 W.R.ready.length k1)).set 6 (.slice a2 W.R.wait.length k2)).set 7 (.slice a3 W.R.due.length k3)).set 8 (.string W.R.out)).set 9 (.string W.R.inp)).set 10 (.int .i64 W.R.how)).set 11 (.int .i64 W.R.exit)).set 12 (.slice a4 W.R.snaps.length k4)
      have XE := (((((((((((((I.x).setNew (p := ⟨ob, 0, none⟩) hb3 (.slice none 0 0)).setNew (p := ⟨ob, 1, none⟩) hb3 (.slice ab W.dead.length cb)).setNew (p := ⟨ob, 2, none⟩) hb3 (.int .i64 W.last)).setNew (p := ⟨ob, 3, none⟩) hb3 (.int .i64 W.R.proc)).setNew (p := ⟨ob, 4, none⟩) hb3 (.int .i64 W.R.frame)).setNew (p := ⟨ob, 5, none⟩) hb3 (.slice a1 W.R.ready.length k1)).setNew (p := ⟨ob, 6, none⟩) hb3 (.slice a2 W.R.wait.length k2)).setNew (p := ⟨ob, 7, none⟩) hb3 (.slice a3 W.R.due.length k3)).setNew (p := ⟨ob, 8, none⟩) hb3 (.string W.R.out)).setNew (p := ⟨ob, 9, none⟩) hb3 (.string W.R.inp)).setNew (p := ⟨ob, 10, none⟩) hb3 (.int .i64 W.R.how)).setNew (p := ⟨ob, 11, none⟩) hb3 (.int .i64 W.R.exit)).setNew (p := ⟨ob, 12, none⟩) hb3 (.slice a4 W.R.snaps.length k4)
      have KT1 : KT [31] w2 _ := Keep.mono KE (fun j e => by subst e; exact ⟨_, _, by simp, B3⟩)
      have eC : (((((((((((((zeroW).setIfInBounds 0 (.slice none 0 0)).setIfInBounds 1 (.slice ab W.dead.length cb)).setIfInBounds 2 (.int .i64 W.last)).setIfInBounds 3 (.int .i64 W.R.proc)).setIfInBounds 4 (.int .i64 W.R.frame)).setIfInBounds 5 (.slice a1 W.R.ready.length k1)).setIfInBounds 6 (.slice a2 W.R.wait.length k2)).setIfInBounds 7 (.slice a3 W.R.due.length k3)).setIfInBounds 8 (.string W.R.out)).setIfInBounds 9 (.string W.R.inp)).setIfInBounds 10 (.int .i64 W.R.how)).setIfInBounds 11 (.int .i64 W.R.exit)).setIfInBounds 12 (.slice a4 W.R.snaps.length k4) = cellsC W (.slice none 0 0) (.slice ab W.dead.length cb) (.slice a1 W.R.ready.length k1) (.slice a2 W.R.wait.length k2) (.slice a3 W.R.due.length k3) (.slice a4 W.R.snaps.length k4) := by simp [zeroW, cellsC]
      rw [eC] at BE
      refine hK _ _ ⟨_, bit_set hL hsz 10 (by omega), s, by simp [frameJ, e3, e14, cellsC], by simpa using hsz, ⟨XE, I.bx.keep KE (fun e => ne1 e.symm), I.bp.keep KE (fun e => ne2 e.symm), fun _ => d9, I.p0, I.l1, fun h => (I.a2 h).kt KT1 (by decide), I.p3, I.l4, I.p5, I.l6, fun h => ?_, fun h => ?_, (fun _ h => by cases h), fun _ => ⟨ob, _, _, _, _, _, e3, hb3, ne1, ne2, BE, D15.kt KT1 (by decide), N15.kt KT1 (by decide) (by decide) (by decide)⟩⟩⟩
      · obtain ⟨r, w1, d, n, e, N⟩ := I.c7 h; exact ⟨r, w1, d, n, e, N.kt KT1 (by decide) (by decide) (by decide)⟩
      · obtain ⟨v, r, w1, d, n, e, D, N⟩ := I.b8 h; exact ⟨v, r, w1, d, n, e, D.kt KT1 (by decide), N.kt KT1 (by decide) (by decide) (by decide)⟩
  · rintro listed a w2 ⟨L, hL, s, rfl, hsz, I⟩ hr
    have ALL : ∀ i, i < 11 → L i = true := fun i hi => by rw [← hL i]; exact all_listed (by kernel_rfl) hsz hr i hi
    obtain ⟨ob, vD', re', wa', du', sn', e3, hb3, ne1, ne2, B3, BD, N3⟩ := I.e10 (ALL 10 (by omega))
    obtain ⟨a1, k1, rfl⟩ := N3.re.form
    obtain ⟨a2, k2, rfl⟩ := N3.wa.form
    obtain ⟨a3, k3, rfl⟩ := N3.du.form
    obtain ⟨a4, k4, rfl⟩ := N3.sn.form
    obtain ⟨ab, cb, rfl⟩ := Own.form BD
    unfold frameJ
    rw [e3]
    have CL0 : Hid (CL w q pb ob W fs 0 (.slice none 0 0) (fun _ => .slice none 0 0) (.slice ab W.dead.length cb) (.slice a1 W.R.ready.length k1) (.slice a2 W.R.wait.length k2) (.slice a3 W.R.due.length k3) (.slice a4 W.R.snaps.length k4) w2) :=
      Lib.hid ⟨I.x, B3, I.bp, World.ownsRow_nil _ _ _ _, fun i hi => by omega, fun i j hi => by omega, BD, N3⟩
    have BQ0 := Lib.hid I.bx
    obtain ⟨z1, z2, z3⟩ := I.bx.rules
    unfold cellsC at z1
    clear hL ALL hr hsz I e3 B3 BD N3
    have HC := Lib.hid (fun (j : Nat) (hj : j < W.L.length) => HH.out.L.cells rfl j hj)
    have HF := Lib.hid (fun (j : Nat) (hj : j < W.L.length) => HH.out.L.flds j hj)
    go_wp2_with fail
    go_loopw [4] (fun iv wr => ∃ (k : Nat) (vL' : Value) (fs' : Nat → Value), k ≤ W.L.length ∧ iv = .int .i64 k ∧ CL w q pb ob W fs k vL' fs' (.slice ab W.dead.length cb) (.slice a1 W.R.ready.length k1) (.slice a2 W.R.wait.length k2) (.slice a3 W.R.due.length k3) (.slice a4 W.R.snaps.length k4) wr ∧ Blk wr q 31 (cellsC W (.slice A1 W.L.length c1) (.slice A2 W.dead.length c2) (.slice A3 W.R.ready.length c3) (.slice A4 W.R.wait.length c4) (.slice A5 W.R.due.length c5) (.slice A6 W.R.snaps.length c6))) (fun iv _ => W.L.length - (intOf iv).toNat)
    case atStart => exact ⟨0, _, _, Nat.zero_le _, rfl, CL0.out, BQ0.out⟩
    case round =>
      obtain ⟨k, vL', fs', hk, rfl, C, bq⟩ := hrel
      have BQ := Lib.hid bq
      clear z1 z2 z3
      obtain ⟨z1, z2, z3⟩ := bq.rules
      unfold cellsC at z1
      clear bq
      have CC := Lib.hid C
      by_cases hlt : k < W.L.length
      · obtain ⟨b, off, rfl, hb, d0, d1, d2, d3, d4, d5⟩ := HC.out k hlt
        have vf := HF.out k hlt
        obtain ⟨AF, cF', ef, f1, f2⟩ := Row.form vf
        replace ef : fs k = .slice AF (tAt W.L k).F.length cF' := ef
        replace d4 : w.cell? ⟨b, off + k * 6 + 4, none⟩ = some (fs k) := d4
        replace vf : ValsAt w (fs k) (tAt W.L k).F := vf
        rw [ef] at d4 vf
        have XA := Lib.hid C.x
        replace d0 := (XA.out.below.cell (p := ⟨b, off + k * 6, none⟩) hb).trans d0
        replace d1 := (XA.out.below.cell (p := ⟨b, off + k * 6 + 1, none⟩) hb).trans d1
        replace d2 := (XA.out.below.cell (p := ⟨b, off + k * 6 + 2, none⟩) hb).trans d2
        replace d3 := (XA.out.below.cell (p := ⟨b, off + k * 6 + 3, none⟩) hb).trans d3
        replace d4 := (XA.out.below.cell (p := ⟨b, off + k * 6 + 4, none⟩) hb).trans d4
        replace d5 := (XA.out.below.cell (p := ⟨b, off + k * 6 + 5, none⟩) hb).trans d5
        have VF := Lib.hid vf
        have M6 := Lib.hid (m6 k hlt)
        obtain ⟨AL', cL', eL⟩ := C.L.form
        subst eL
        have BO2 := Lib.hid C.bo
        obtain ⟨i0, hi0, hz0, hz1, hz2⟩ := info_parts infoT
        obtain ⟨iV, hV, hV0, hV1, hV2⟩ := info_parts infoV'
        obtain ⟨o1, o2, o3⟩ := BO2.out.rules
        unfold cellsC at o1
        have kI : (k : Int) < (W.L.length : Int) := by omega
        clear ef vf C
        have nqo : q ≠ ob := fun e => ne1 e.symm
        generalize ht : tAt W.L k = t at *
        have HTk := Lib.hid ht
        clear ht
        go_upto_region 6 with (fail)
        refine wp_name (fun W2 hW => ?_)
        have BT : Blk W2 wr.heap.size 57 #[.int .i64 t.cls, .int .i64 t.fmt, .int .i64 t.hash, .bool t.fin, .slice AF t.F.length cF', .string t.B] := Blk.new' hW
        have X2 : Ext wr W2 := (Ext.refl wr).alloc' hW
        clear hW d0 d1 d2 d3 d4 d5 z1 z2 z3 o1 o2 o3
        have HX2 := Lib.hid X2
        have HBT := Lib.hid BT
        obtain ⟨t1, t2, t3⟩ := BT.rules
        clear BT X2
        go_upto_region 7 with (at_builtin; refine wpList_append_nil rfl (.tmp 28) 39 rfl 37 iV (.agg #[.bool false, .int .i64 0]) 2 16 Try.underlying39 hV hV0 hV1 hV2 rfl (by decide) (by decide) rfl (Row.ext VF.out (XA.out.trans HX2.out)) (fun i j => by unfold cV; split <;> rfl) M6.out ?_; intro vF' w5 ow x5; obtain ⟨AV, cV', eV⟩ := Own.form ow; subst eV; have X5 := Lib.hid (HX2.out.trans x5); have OW := Lib.hid (Own.base (b' := w.heap.size) ow (by have := (XA.out.trans HX2.out).below.size; exact this)); have APN := Lib.hid (fun i (hi : i < k) => Own.apart ow ((CC.out.fs i hi).ext HX2.out)); have BT5 := Lib.hid (HBT.out.ext x5); clear t1 t2 t3; obtain ⟨t1, t2, t3⟩ := (HBT.out.ext x5).rules; obtain ⟨o1, o2, o3⟩ := (BO2.out.ext X5.out).rules; unfold cellsC at o1; have hob : ob < wr.heap.size := BO2.out.lt; clear x5 ow)
        go_wp2_with (at_builtin; refine wpList_append_own_at _ rfl (.tmp 32) (.tmp 34) 24 rfl w.heap.size 57 i0 (.agg #[.int .i64 0, .int .i64 0, .int .i64 0, .bool false, .slice none 0 0, .string ByteArray.empty]) 6 72 Try.underlying24 hi0 hz0 hz1 hz2 rfl (by decide) (.slice AL' k cL') k (flat k 6 (cL W.L fs')) rfl ?c0 ⟨w5.heap.size, 0, none⟩ 1 1 [.int .i64 t.cls, .int .i64 t.fmt, .int .i64 t.hash, .bool t.fin, .slice AV t.F.length cV', .string t.B] rfl rfl ?c1 ?c2 ?c3 ?c4 ?c5 ?_)
        case c0 => exact CC.out.L.ext ((X5.out.setNew (p := ⟨wr.heap.size, 4, none⟩) (Nat.le_refl _) _).alloc _)
        case c1 =>
          intro j u hj
          have hB := Blk.new (w5.setCell ⟨wr.heap.size, 4, none⟩ (.slice AV t.F.length cV')) 57 #[.int .i64 t.cls, .int .i64 t.fmt, .int .i64 t.hash, .bool t.fin, .slice AV t.F.length cV', .string t.B]
          rw [show (w5.setCell ⟨wr.heap.size, 4, none⟩ (.slice AV t.F.length cV')).heap.size = w5.heap.size from by simp [World.setCell]] at hB
          rw [Addr.add_lit, Nat.zero_add, hB.cell, ← Array.getElem?_toList]
          exact hj
        case c2 =>
          intro u hu
          simp only [List.mem_cons, List.not_mem_nil, or_false] at hu
          rcases hu with rfl | rfl | rfl | rfl | rfl | rfl <;> rfl
        case c3 => unfold maxLen; omega
        case c4 => omega
        case c5 => exact ((XA.out.trans X5.out).setNew (p := ⟨wr.heap.size, 4, none⟩) (XA.out.below.size) _ |>.alloc _).below.size
        intro v' w6 o6 g6 _ _
        have XW := (X5.out.setNew (p := ⟨wr.heap.size, 4, none⟩) (Nat.le_refl _) (.slice AV t.F.length cV')).alloc (.cells #[.int .i64 t.cls, .int .i64 t.fmt, .int .i64 t.hash, .bool t.fin, .slice AV t.F.length cV', .string t.B] 57)
        have XO := ((Ext.refl w5).alloc (.cells #[.int .i64 t.cls, .int .i64 t.fmt, .int .i64 t.hash, .bool t.fin, .slice AV t.F.length cV', .string t.B] 57))
        have LW := CC.out.L.ext XW
        have KW : Keep (fun j => Value.ownBlock (.slice AL' k cL') = some j) _ w6 := ⟨g6.os, g6.tape, g6.output, g6.size, fun k hk hn => g6.block k hk (fun e => hn e.symm)⟩
        have KT6 : KT [57] _ w6 := Keep.mono KW (fun j hj => by obtain ⟨_, cs, hb⟩ := LW.block hj; exact ⟨_, _, by simp, hb⟩)
        have X6 : Ext w w6 := Ext.of_below (Keep.below (XA.out.trans XW).below KW (XA.out.trans XW).below.size (fun i hi e => by have := (LW.block e).1; omega))
        have L6 : Own w6 w.heap.size 57 v' (k + 1) 6 (cL W.L (fun i => if i = k then .slice AV t.F.length cV' else fs' i)) := by
          show w6.ownsRow _ _ _ _ _ _
          have e1 : (List.range 6).map (cL W.L (fun i => if i = k then .slice AV t.F.length cV' else fs' i) k) = [.int .i64 t.cls, .int .i64 t.fmt, .int .i64 t.hash, .bool t.fin, .slice AV t.F.length cV', .string t.B] := by
            rw [show List.range 6 = [0, 1, 2, 3, 4, 5] from rfl]
            simp only [List.map_cons, List.map_nil, cL, cT, if_true, HTk.out]
          have e2 : flat k 6 (cL W.L (fun i => if i = k then .slice AV t.F.length cV' else fs' i)) = flat k 6 (cL W.L fs') := flat_congr (fun i j hi => by simp only [cL]; rw [if_neg (by omega)])
          rw [flat_succ, e1, e2]
          exact o6
        obtain ⟨AL6, cL6, eL6⟩ := L6.form
        subst eL6
        have BO6 := blk_kt (BO2.out.ext XW) KT6 (by decide)
        have KTo := kt_set BO6 0 (.slice AL6 (k + 1) cL6)
        have OW6 := (((OW.out.set BT5.out (by decide) (i := 4) (u := .slice AV t.F.length cV')).ext ((Ext.refl _).alloc (.cells #[.int .i64 t.cls, .int .i64 t.fmt, .int .i64 t.hash, .bool t.fin, .slice AV t.F.length cV', .string t.B] 57))).kt KT6 (by decide)).kt KTo (by decide)
        have CN : Hid (CL w q pb ob W fs (k + 1) (.slice AL6 (k + 1) cL6) (fun i => if i = k then .slice AV t.F.length cV' else fs' i) (.slice ab W.dead.length cb) (.slice a1 W.R.ready.length k1) (.slice a2 W.R.wait.length k2) (.slice a3 W.R.due.length k3) (.slice a4 W.R.snaps.length k4) (w6.setCell ⟨ob, 0, none⟩ (.slice AL6 (k + 1) cL6))) := Lib.hid ⟨X6.setNew (p := ⟨ob, 0, none⟩) hb3 _, by have := BO6.set 0 (.slice AL6 (k + 1) cL6); simpa [cellsC] using this, (blk_kt (CC.out.bp.ext XW) KT6 (by decide)).far (p := ⟨ob, 0, none⟩) (fun e => ne2 e.symm) _, L6.kt KTo (by decide), fun i hi => by
            show Own _ _ _ (if i = k then _ else _) _ _ _
            by_cases e : i = k
            · subst e; rw [if_pos rfl, HTk.out]; exact OW6
            · rw [if_neg e]; exact (((CC.out.fs i (by omega)).ext XW).kt KT6 (by decide)).kt KTo (by decide), fun i j hi hj => by
            show Apart (if i = k then _ else _) (if j = k then _ else _)
            rw [if_neg (by omega : j ≠ k)]
            by_cases e : i = k
            · subst e; rw [if_pos rfl]; exact APN.out j hj
            · rw [if_neg e]; exact CC.out.ap i j (by omega) hj, ((CC.out.dead.ext XW).kt KT6 (by decide)).kt KTo (by decide), ((CC.out.R.ext XW).kt KT6 (by decide) (by decide) (by decide)).kt KTo (by decide) (by decide) (by decide)⟩
        have BQN := Lib.hid ((blk_kt (BQ.out.ext XW) KT6 (by decide)).far (p := ⟨ob, 0, none⟩) nqo (.slice AL6 (k + 1) cL6))
        obtain ⟨y1, y2, y3⟩ := BO6.rules
        unfold cellsC at y1
        clear t1 t2 t3 o1 o2 o3 L6 KTo OW6 KT6 KW X6 XW XO LW g6 o6 BO6
        go_wp2_with fail
        go_roundw
        case rel => exact ⟨k + 1, _, _, by omega, by go_num, CN.out, BQN.out⟩
        case measure => simp [intOf]; omega
      · obtain rfl : k = W.L.length := by omega
        obtain ⟨AL', cL', eL⟩ := C.L.form
        subst eL
        obtain ⟨y1, y2, y3⟩ := C.bo.rules
        obtain ⟨p1, p2, p3⟩ := C.bp.rules
        unfold cellsC at y1
        unfold zeroW at p1
        clear C
        go_wp2_with fail
        refine bodyPost_ret (v := .agg (cellsC W (.slice AL' W.L.length cL') (.slice ab W.dead.length cb) (.slice a1 W.R.ready.length k1) (.slice a2 W.R.wait.length k2) (.slice a3 W.R.due.length k3) (.slice a4 W.R.snaps.length k4))) (by simp [results, Try.results43, go_sem, p1, cellsC]) rfl ?_
        have KP := (((((((((((((Keep.refl (· = pb) wr).setCell (p := ⟨pb, 0, none⟩) rfl (.slice AL' W.L.length cL')).setCell (p := ⟨pb, 1, none⟩) rfl (.slice ab W.dead.length cb)).setCell (p := ⟨pb, 2, none⟩) rfl (.int .i64 W.last)).setCell (p := ⟨pb, 3, none⟩) rfl (.int .i64 W.R.proc)).setCell (p := ⟨pb, 4, none⟩) rfl (.int .i64 W.R.frame)).setCell (p := ⟨pb, 5, none⟩) rfl (.slice a1 W.R.ready.length k1)).setCell (p := ⟨pb, 6, none⟩) rfl (.slice a2 W.R.wait.length k2)).setCell (p := ⟨pb, 7, none⟩) rfl (.slice a3 W.R.due.length k3)).setCell (p := ⟨pb, 8, none⟩) rfl (.string W.R.out)).setCell (p := ⟨pb, 9, none⟩) rfl (.string W.R.inp)).setCell (p := ⟨pb, 10, none⟩) rfl (.int .i64 W.R.how)).setCell (p := ⟨pb, 11, none⟩) rfl (.int .i64 W.R.exit)).setCell (p := ⟨pb, 12, none⟩) rfl (.slice a4 W.R.snaps.length k4)
        have KPT : KT [31] wr _ := Keep.mono KP (fun j e => by subst e; exact ⟨_, _, by simp, CC.out.bp⟩)
        refine ⟨⟨⟨.slice AL' W.L.length cL', fs', .slice ab W.dead.length cb, .slice a1 W.R.ready.length k1, .slice a2 W.R.wait.length k2, .slice a3 W.R.due.length k3, .slice a4 W.R.snaps.length k4⟩, rfl, CC.out.L.kt KPT (by decide), fun i hi => (CC.out.fs i hi).kt KPT (by decide), CC.out.ap, CC.out.dead.kt KPT (by decide), CC.out.R.kt KPT (by decide) (by decide) (by decide), HH.out.nums⟩, ?_⟩
        exact (((((((((((((CC.out.x).setNew (p := ⟨pb, 0, none⟩) hpbw _).setNew (p := ⟨pb, 1, none⟩) hpbw _).setNew (p := ⟨pb, 2, none⟩) hpbw _).setNew (p := ⟨pb, 3, none⟩) hpbw _).setNew (p := ⟨pb, 4, none⟩) hpbw _).setNew (p := ⟨pb, 5, none⟩) hpbw _).setNew (p := ⟨pb, 6, none⟩) hpbw _).setNew (p := ⟨pb, 7, none⟩) hpbw _).setNew (p := ⟨pb, 8, none⟩) hpbw _).setNew (p := ⟨pb, 9, none⟩) hpbw _).setNew (p := ⟨pb, 10, none⟩) hpbw _).setNew (p := ⟨pb, 11, none⟩) hpbw _).setNew (p := ⟨pb, 12, none⟩) hpbw _
end
end Go.Proofs.Ytadhkmplhgcgkaa.World
