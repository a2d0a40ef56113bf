/-
  Play, as one text (a claim has at most 60 files).
-/
import Derived.Test.YtjpalcejmloocaaGreatVq33
import Derived.Test.YtjpalcejmloocaaGreatVq19
import Derived.Test.YtjpalcejmloocaaGreatVq27
namespace Go.Proofs.YtjpalcejmloocaaGreat.World
open Go.RowKit Go.Proofs.YtjpalcejmloocaaGreat.Plain
set_option linter.unusedVariables false
attribute [local go_sem ↓] Go.wp_at_zero Go.wp_at_succ
section
variable {w w' : World} {R : PR} {M : Nat}
set_option maxHeartbeats 1000000 in
theorem mach_regs (h : MachAt w M R) : Calls Tryz.prog 76 #[.pointer (some ⟨M, 0, none⟩)] w fun e w' => (∃ re wa du sn, e = .returned (.agg (cellsR R re wa du sn)) ∧ RegsAt w' R re wa du sn) ∧ Ext w w' := by
  obtain ⟨m, q, re, wa, du, sn, last, sb, h1, h2, h3⟩ := h
  have H1 := Lib.hid h1
  have H2 := Lib.hid h2
  have H3 := Lib.hid h3
  clear h1 h2 h3
  go_enter Tryz.func76, Tryz.ntmps76
  go_upto_region 1 with (fail)
  refine wp_name (fun W1 hW => ?_)
  have B1 := Lib.hid (Blk.new' hW)
  have X1 := Lib.hid ((Ext.refl w).alloc' hW)
  have HM := Lib.hid (H1.out.ext X1.out)
  have HS := Lib.hid (Blk.new' hW).lt
  clear hW H1
  obtain ⟨g, eg⟩ : ∃ g, w.heap.size = g := ⟨_, rfl⟩
  rw [eg] at B1 HS
  have EG := Lib.hid eg
  rw [eg]
  clear eg
  obtain ⟨r1, r2, r3⟩ := HM.out.rules
  go_wp2_with fail
  refine (mrregs (H2.out.ext X1.out) (H3.out.ext X1.out)).mono ?_
  rintro e w2 ⟨⟨re', wa', du', sn', rfl, rn⟩, x2⟩
  have R2 := Lib.hid (rn.low (b' := g) (Nat.le_of_lt HS.out))
  have X2 := Lib.hid (X1.out.trans x2)
  have B2 := Lib.hid (B1.out.ext x2)
  have HFit := Lib.hid H3.out.fit
  clear r1 r2 r3 rn x2 H2 H3 B1 X1 HM
  unfold cellsR
  obtain ⟨A1, c1, rfl⟩ := R2.out.re.form
  obtain ⟨A2, c2, rfl⟩ := R2.out.wa.form
  obtain ⟨A3, c3, rfl⟩ := R2.out.du.form
  obtain ⟨A4, c4, rfl⟩ := R2.out.sn.form
  obtain ⟨r1, r2, r3⟩ := B2.out.rules
  go_wp2_with fail
  refine bodyPost_ret (v := .agg (cellsR R (.slice A1 R.ready.length c1) (.slice A2 R.wait.length c2) (.slice A3 R.due.length c3) (.slice A4 R.snaps.length c4))) (by simp [results, Tryz.results76, go_sem, r1, cellsR]) rfl ?_
  have K := keepG10 w2 g (.int .i64 R.proc) (.int .i64 R.frame) (.slice A1 R.ready.length c1) (.slice A2 R.wait.length c2) (.slice A3 R.due.length c3) (.string R.out) (.string R.inp) (.int .i64 R.how) (.int .i64 R.exit) (.slice A4 R.snaps.length c4)
  have XF := extG10 (g := g) X2.out (by rw [EG.out]; exact Nat.le_refl _) (.int .i64 R.proc) (.int .i64 R.frame) (.slice A1 R.ready.length c1) (.slice A2 R.wait.length c2) (.slice A3 R.due.length c3) (.string R.out) (.string R.inp) (.int .i64 R.how) (.int .i64 R.exit) (.slice A4 R.snaps.length c4)
  exact ⟨⟨_, _, _, _, rfl, (R2.out.keep K B2.out).at_ HFit.out⟩, XF⟩
set_option maxHeartbeats 1000000 in
theorem mach_phase (h : MachAt w M R) : Calls Tryz.prog 77 #[.pointer (some ⟨M, 0, none⟩)] w fun e w' => e = .returned (.int .i64 0) ∧ Ext w w' := by
  obtain ⟨m, q, re, wa, du, sn, last, sb, h1, h2, h3⟩ := h
  have H2 := Lib.hid h2
  obtain ⟨r1, r2, r3⟩ := h1.rules
  clear h1 h2 h3
  go_enter Tryz.func77, Tryz.ntmps77
  go_wp2_with fail
  refine (mrphase H2.out).mono ?_
  rintro e w2 ⟨rfl, x2⟩
  have X2 := Lib.hid x2
  clear x2 r1 r2 r3
  go_wp2_with fail
  go_ret
  exact ⟨rfl, X2.out⟩
set_option maxHeartbeats 1000000 in
theorem cut0 (w : World) : Calls Tryz.prog 101 #[.slice none 0 0] w fun e w' => e = .returned (.slice none 0 0) ∧ Ext w w' := by
  go_enter Tryz.func101, Tryz.ntmps101
  go_wp2_with fail
  go_ret
  exact ⟨rfl, Ext.refl w⟩
/-- every edge that binds leads back -/
def backB' (md : Region.Mode) (ops : Array Oper) : Bool := (List.range ops.size).all fun i => ((ops[i]?).map (·.after.all fun e => !Region.binds md e || decide (e.on < i))).getD true
theorem all_listed' {md : Region.Mode} {ops : Array Oper} (hb : backB' md ops = true) {listed : Array Bool} (hs : listed.size = ops.size) (hr : Region.ready md ops listed = []) : ∀ i, i < ops.size → listed.getD i false = true := by
  intro i
  induction i using Nat.strongRecOn with
  | ind i ih =>
    intro hi
    cases hq : listed.getD i false with
    | true => rfl
    | false =>
      exfalso
      have hm : i ∈ Region.ready md ops listed := by
        rw [ready_iff]
        refine ⟨hi, ?_, ?_⟩
        · rw [Array.getD_eq_getD_getElem?] at hq ⊢
          have hi' : i < listed.size := by omega
          rw [Array.getElem?_eq_getElem hi'] at hq ⊢
          exact hq
        · unfold backB' at hb
          rw [List.all_eq_true] at hb
          have h1 := hb i (List.mem_range.2 hi)
          rw [Array.getElem?_eq_getElem hi] at h1 ⊢
          simp only [Option.map_some, Option.getD_some] at h1 ⊢
          rw [Array.all_eq_true'] at h1 ⊢
          intro e he
          have h2 := h1 e he
          cases hB : Region.binds md e with
          | false => rfl
          | true =>
            rw [hB] at h2
            simp only [Bool.not_true, Bool.false_or] at h2
            have h3 := of_decide_eq_true h2
            rw [ih e.on h3 (by omega), Bool.or_true]
      rw [hr] at hm
      cases hm
theorem infoStr : (Tryz.prog.info? 9).map (fun i => (i.zero, i.size, i.bytes)) = some (some (.string ⟨#[]⟩), 1, 16) := by kernel_rfl
theorem make_str0 (w : World) : (Instr.makeSlice 27 (.int .i64 0) (.int .i64 0)).run Tryz.prog w = .ok (.slice (some ⟨w.heap.size, 0, none⟩) 0 0) (w.alloc (.cells #[] 9)) := by
  obtain ⟨i0, hi, hz0, hz1, hz2⟩ := info_parts infoStr
  have h := run_make (P := Tryz.prog) w 27 9 i0 (.string ⟨#[]⟩) Tryz.underlying27 hi hz0 .i64 .i64 0 0 (by omega) (by omega) (by rw [hz2]; omega) (by omega)
  rw [h]
  have e : madeCells (Value.cells (.string ⟨#[]⟩)) ((0 : Int).toNat * i0.size) = #[] := by
    rw [hz1]
    apply Array.ext
    · simp [madeCells]
    · intro j h1 h2; simp at h2
  rw [e]
  rfl
def zeroTr : Array Value := #[.string ByteArray.empty, .int .i64 0, .int .i64 0, .int .i64 0, .int .i64 0, .slice none 0 0, .int .i64 0]
structure PI (w : World) (R : PR) (re wa du sn : Value) (M g8 gT gR : Nat) (L : Nat → Bool) (s : Nat → Value) (W : World) : Prop where
  x : Ext w W
  bR : Blk W gR 29 (cellsR R re wa du sn)
  b8 : Blk W g8 84 zeroTr
  bT : ∃ c0 c1 c2 c3, Blk W gT 84 #[c0, c1, c2, .int .i64 0, .int .i64 0, .slice none 0 0, c3] ∧ (L 9 = true → c0 = .string R.out) ∧ (L 11 = true → c1 = .int .i64 R.how) ∧ (L 13 = true → c2 = .int .i64 R.exit) ∧ (L 15 = true → c3 = .int .i64 0)
  v0 : L 0 = true → s 42 = .pointer (some ⟨gR, 5, none⟩)
  v1 : L 1 = true → s 43 = .string R.out
  v2 : L 2 = true → s 44 = .pointer (some ⟨gR, 7, none⟩)
  v3 : L 3 = true → s 45 = .int .i64 R.how
  v4 : L 4 = true → s 46 = .pointer (some ⟨gR, 8, none⟩)
  v5 : L 5 = true → s 47 = .int .i64 R.exit
  v6 : L 6 = true → s 48 = .func (.func 77) #[.pointer (some ⟨M, 0, none⟩)] #[]
  v7 : L 7 = true → s 49 = .int .i64 0
  v8 : L 8 = true → s 50 = .pointer (some ⟨gT, 0, none⟩)
  v10 : L 10 = true → s 51 = .pointer (some ⟨gT, 1, none⟩)
  v12 : L 12 = true → s 52 = .pointer (some ⟨gT, 2, none⟩)
  v14 : L 14 = true → s 53 = .pointer (some ⟨gT, 6, none⟩)
def frP (M g8 gT gR : Nat) (u s : Nat → Value) : Act := { tmps := #[u 0, u 1, .func (.func 77) #[.pointer (some ⟨M, 0, none⟩)] #[], u 3, u 4, u 5, u 6, u 7, .pointer (some ⟨g8, 0, none⟩), .pointer (some ⟨gT, 0, none⟩), u 10, u 11, u 12, u 13, .pointer (some ⟨gR, 0, none⟩), u 15, u 16, u 17, u 18, u 19, u 20, u 21, u 22, u 23, u 24, u 25, u 26, u 27, u 28, u 29, u 30, u 31, u 32, u 33, u 34, u 35, u 36, u 37, u 38, u 39, u 40, u 41, s 42, s 43, s 44, s 45, s 46, s 47, s 48, s 49, s 50, s 51, s 52, s 53, u 54, u 55, u 56, u 57, u 58, u 59, u 60, u 61, u 62, u 63, u 64], defers := [] }
def PInv (w : World) (R : PR) (re wa du sn : Value) (M g8 gT gR : Nat) (u : Nat → Value) (listed : Array Bool) (act : Act) (W : World) : Prop :=
  ∃ L : Nat → Bool, (∀ k, listed.getD k false = L k) ∧ ∃ s : Nat → Value, act = frP M g8 gT gR u s ∧ listed.size = 16 ∧ PI w R re wa du sn M g8 gT gR L s W
set_option maxRecDepth 100000 in
set_option maxHeartbeats 4000000 in
theorem play0 (h : MachAt w M R) (hs : R.snaps = []) : Calls Tryz.prog 75 #[.iface 130 (.pointer (some ⟨M, 0, none⟩)), .func (.func 76) #[.pointer (some ⟨M, 0, none⟩)] #[], .func (.func 77) #[.pointer (some ⟨M, 0, none⟩)] #[], .slice none 0 0] w fun e w' => (∃ A, e = .returned (.agg #[.string R.out, .int .i64 R.how, .int .i64 R.exit, .int .i64 0, .int .i64 0, .slice A 0 0, .int .i64 0])) ∧ Ext w w' := by
  have CR := Lib.hid (fun w' (x : Ext w w') => mach_regs (h.ext x))
  have CP := Lib.hid (fun w' (x : Ext w w') => mach_phase (h.ext x))
  have hk1 : ∀ (W : World), (callFunc 76 #[.pointer (some ⟨M, 0, none⟩)]).run Tryz.prog W = .ok (.enter 76 #[.pointer (some ⟨M, 0, none⟩)]) W := fun _ => by kernel_rfl
  have hk2 : ∀ (W : World), (callFunc 77 #[.pointer (some ⟨M, 0, none⟩)]).run Tryz.prog W = .ok (.enter 77 #[.pointer (some ⟨M, 0, none⟩)]) W := fun _ => by kernel_rfl
  clear h
  go_enter Tryz.func75, Tryz.ntmps75
  go_upto_region 1 with (fail)
  refine wp_name (fun W1 hW => ?_)
  have B8 := Lib.hid (Blk.new' hW)
  have B5 := Lib.hid ((Blk.new w _ _).alloc' hW)
  have X1 := Lib.hid (((Ext.refl w).alloc _).alloc' hW)
  simp only [World.size_alloc] at B8
  clear hW
  obtain ⟨g5, eg⟩ : ∃ g, w.heap.size = g := ⟨_, rfl⟩
  have EG := Lib.hid eg
  rw [eg] at B8 B5 ⊢
  clear eg
  obtain ⟨g8, e8⟩ : ∃ g, g5 + 1 = g := ⟨_, rfl⟩
  have E8 := Lib.hid e8
  rw [e8] at B8 ⊢
  clear e8
  go_upto_region 2 with (fail)
  refine wp_name (fun W2 hW => ?_)
  have BT := Lib.hid (Blk.new' hW)
  have B8' := Lib.hid (B8.out.alloc' hW)
  have B5' := Lib.hid (B5.out.alloc' hW)
  have X2 := Lib.hid (X1.out.alloc' hW)
  have HLT := Lib.hid (Nat.le_refl W1.heap.size)
  have H8 := Lib.hid B8.out.lt
  clear hW B8 B5
  obtain ⟨gT, eT⟩ : ∃ g, W1.heap.size = g := ⟨_, rfl⟩
  have HT := Lib.hid eT
  rw [eT] at BT H8 ⊢
  clear eT HLT
  go_wp2_with fail
  refine (cut0 _).mono ?_
  rintro e w3 ⟨rfl, x3⟩
  have X3 := Lib.hid (X2.out.trans x3)
  have T3 := Lib.hid (BT.out.ext x3)
  have R3 := Lib.hid (B8'.out.ext x3)
  have F3 := Lib.hid (B5'.out.ext x3)
  have HW := Lib.hid (show w.heap.size ≤ gT by rw [← HT.out]; exact X1.out.below.size)
  have HG8 := Lib.hid (show w.heap.size ≤ g8 by rw [← E8.out, EG.out]; exact Nat.le_succ _)
  have NE8 := Lib.hid (show g8 ≠ gT by have := H8.out; omega)
  clear X1 X2 BT B8' B5' x3 HT H8 E8 EG
  go_wp2_with fail
  go_loopw [18] (fun iv wr => iv = .int .i64 0 ∧ w3 = wr) (fun _ _ => 0)
  case atStart => exact ⟨rfl, rfl⟩
  case round =>
    obtain ⟨rfl, rfl⟩ := hrel
    obtain ⟨r1, r2, r3⟩ := F3.out.rules
    go_wp2_with fail
    refine (CR.out _ X3.out).mono ?_
    rintro e w4 ⟨⟨re, wa, du, sn, rfl, rn⟩, x4⟩
    have RN := Lib.hid rn
    have X4 := Lib.hid (X3.out.trans x4)
    have T4 := Lib.hid (T3.out.ext x4)
    have R4 := Lib.hid (R3.out.ext x4)
    clear r1 r2 r3 rn x4 F3 X3 T3 R3 CR
    unfold cellsR
    obtain ⟨A1, c1, rfl, _⟩ := RN.out.h1.form
    obtain ⟨A2, c2, rfl, _⟩ := RN.out.h2.form
    obtain ⟨A3, c3, rfl, _⟩ := RN.out.h3.form
    obtain ⟨A4, c4, rfl, _⟩ := RN.out.h4.form
    go_upto_region 10 with (fail)
    refine wp_name (fun W5 hW => ?_)
    have BR := Lib.hid (Blk.new' hW)
    have XR := Lib.hid (X4.out.alloc' hW)
    have BT := Lib.hid (T4.out.alloc' hW)
    have B8 := Lib.hid (R4.out.alloc' hW)
    have NE := Lib.hid (show w4.heap.size ≠ gT by have := T4.out.lt; omega)
    clear hW X4 T4 R4
    generalize w4.heap.size = gR at *
    refine wp_any_act (fun A hA => ?_)
    have eA : A = frP M g8 gT gR (fun q => A.tmps.getD q undef) (fun q => A.tmps.getD q undef) := by rw [hA]; rfl
    clear hA
    generalize (fun q => A.tmps.getD q undef) = uu at eA
    subst eA
    refine wp_region_inv (Inv := PInv w R (.slice A1 R.ready.length c1) (.slice A2 R.wait.length c2) (.slice A3 R.due.length c3) (.slice A4 0 c4) M g8 gT gR uu) (by kernel_rfl) ?_ ?_ ?_
    · refine ⟨fun _ => false, fun k => ?_, uu, rfl, by simp, ⟨XR.out.drew, BR.out.drew, B8.out.drew, ⟨.string ByteArray.empty, .int .i64 0, .int .i64 0, .int .i64 0, BT.out.drew, ?_, ?_, ?_, ?_⟩, ?_, ?_, ?_, ?_, ?_, ?_, ?_, ?_, ?_, ?_, ?_, ?_⟩⟩
      · rw [Array.getD_eq_getD_getElem?, Array.getElem?_replicate]; split <;> rfl
      all_goals (intro h; cases h)
    · rintro listed act W ii ⟨L, hL, s, rfl, hsz, I⟩ hi
      obtain ⟨hlt, hnot, hdep⟩ := (ready_iff _ _).1 hi
      have hiN : ii < 16 := hlt
      have casesN : ii = 0 ∨ ii = 1 ∨ ii = 2 ∨ ii = 3 ∨ ii = 4 ∨ ii = 5 ∨ ii = 6 ∨ ii = 7 ∨ ii = 8 ∨ ii = 9 ∨ ii = 10 ∨ ii = 11 ∨ ii = 12 ∨ ii = 13 ∨ ii = 14 ∨ ii = 15 := by omega
      have hn0 : L ii = false := by rw [← hL ii]; exact not_bit hnot
      clear hi hlt hiN hnot
      unfold frP
      rcases casesN with rfl | rfl | rfl | rfl | rfl | rfl | rfl | rfl | rfl | rfl | rfl | rfl | rfl | rfl | rfl | rfl
      · -- operation 0
        simp only [Region.binds, listed_bit hL] at hdep
        refine wpOp_step rfl (fun K' hK => ?_)
        go_simp
        exact hK _ _ ⟨_, bit_set hL hsz 0 (by omega), fun jx => if jx = 42 then .pointer (some ⟨gR, 5, none⟩) else s jx, by first | (simp [frP]; done) | (simp [frP]; rfl), by simpa using hsz, ⟨I.x, I.bR, I.b8, I.bT, fun _ => rfl, I.v1, I.v2, I.v3, I.v4, I.v5, I.v6, I.v7, I.v8, I.v10, I.v12, I.v14⟩⟩
      · -- operation 1
        simp only [Region.binds, listed_bit hL] at hdep
        have d0 : L 0 = true := by first | simpa [hL] using hdep | (simp [hL, Region.binds] at hdep; simp [hdep])
        have e0 := I.v0 d0
        have hc : W.cell? ⟨gR, 5, none⟩ = some (.string R.out) := I.bR.cell 5
        have hl := I.bR.lt
        refine wpOp_step rfl (fun K' hK => ?_)
        rw [e0]
        go_simp
        exact hK _ _ ⟨_, bit_set hL hsz 1 (by omega), fun jx => if jx = 43 then .string R.out else s jx, by first | (simp [frP, e0]; done) | (simp [frP, e0]; rfl), by simpa using hsz, ⟨I.x, I.bR, I.b8, I.bT, I.v0, fun _ => rfl, I.v2, I.v3, I.v4, I.v5, I.v6, I.v7, I.v8, I.v10, I.v12, I.v14⟩⟩
      · -- operation 2
        simp only [Region.binds, listed_bit hL] at hdep
        refine wpOp_step rfl (fun K' hK => ?_)
        go_simp
        exact hK _ _ ⟨_, bit_set hL hsz 2 (by omega), fun jx => if jx = 44 then .pointer (some ⟨gR, 7, none⟩) else s jx, by first | (simp [frP]; done) | (simp [frP]; rfl), by simpa using hsz, ⟨I.x, I.bR, I.b8, I.bT, I.v0, I.v1, fun _ => rfl, I.v3, I.v4, I.v5, I.v6, I.v7, I.v8, I.v10, I.v12, I.v14⟩⟩
      · -- operation 3
        simp only [Region.binds, listed_bit hL] at hdep
        have d2 : L 2 = true := by first | simpa [hL] using hdep | (simp [hL, Region.binds] at hdep; simp [hdep])
        have e2 := I.v2 d2
        have hc : W.cell? ⟨gR, 7, none⟩ = some (.int .i64 R.how) := I.bR.cell 7
        have hl := I.bR.lt
        refine wpOp_step rfl (fun K' hK => ?_)
        rw [e2]
        go_simp
        exact hK _ _ ⟨_, bit_set hL hsz 3 (by omega), fun jx => if jx = 45 then .int .i64 R.how else s jx, by first | (simp [frP, e2]; done) | (simp [frP, e2]; rfl), by simpa using hsz, ⟨I.x, I.bR, I.b8, I.bT, I.v0, I.v1, I.v2, fun _ => rfl, I.v4, I.v5, I.v6, I.v7, I.v8, I.v10, I.v12, I.v14⟩⟩
      · -- operation 4
        simp only [Region.binds, listed_bit hL] at hdep
        refine wpOp_step rfl (fun K' hK => ?_)
        go_simp
        exact hK _ _ ⟨_, bit_set hL hsz 4 (by omega), fun jx => if jx = 46 then .pointer (some ⟨gR, 8, none⟩) else s jx, by first | (simp [frP]; done) | (simp [frP]; rfl), by simpa using hsz, ⟨I.x, I.bR, I.b8, I.bT, I.v0, I.v1, I.v2, I.v3, fun _ => rfl, I.v5, I.v6, I.v7, I.v8, I.v10, I.v12, I.v14⟩⟩
      · -- operation 5
        simp only [Region.binds, listed_bit hL] at hdep
        have d4 : L 4 = true := by first | simpa [hL] using hdep | (simp [hL, Region.binds] at hdep; simp [hdep])
        have e4 := I.v4 d4
        have hc : W.cell? ⟨gR, 8, none⟩ = some (.int .i64 R.exit) := I.bR.cell 8
        have hl := I.bR.lt
        refine wpOp_step rfl (fun K' hK => ?_)
        rw [e4]
        go_simp
        exact hK _ _ ⟨_, bit_set hL hsz 5 (by omega), fun jx => if jx = 47 then .int .i64 R.exit else s jx, by first | (simp [frP, e4]; done) | (simp [frP, e4]; rfl), by simpa using hsz, ⟨I.x, I.bR, I.b8, I.bT, I.v0, I.v1, I.v2, I.v3, I.v4, fun _ => rfl, I.v6, I.v7, I.v8, I.v10, I.v12, I.v14⟩⟩
      · -- operation 6
        simp only [Region.binds, listed_bit hL] at hdep
        refine wpOp_step rfl (fun K' hK => ?_)
        go_simp
        exact hK _ _ ⟨_, bit_set hL hsz 6 (by omega), fun jx => if jx = 48 then .func (.func 77) #[.pointer (some ⟨M, 0, none⟩)] #[] else s jx, by first | (simp [frP]; done) | (simp [frP]; rfl), by simpa using hsz, ⟨I.x, I.bR, I.b8, I.bT, I.v0, I.v1, I.v2, I.v3, I.v4, I.v5, fun _ => rfl, I.v7, I.v8, I.v10, I.v12, I.v14⟩⟩
      · -- operation 7
        simp only [Region.binds, listed_bit hL] at hdep
        have d6 : L 6 = true := by first | simpa [hL] using hdep | (simp [hL, Region.binds] at hdep; simp [hdep])
        have e6 := I.v6 d6
        have IX := Lib.hid I
        clear I
        refine wpOp_step rfl (fun K' hK => ?_)
        rw [e6]
        go_simp
        refine (CP.out _ IX.out.x).mono ?_
        rintro e w3 ⟨rfl, x3⟩
        exact hK _ _ ⟨_, bit_set hL hsz 7 (by omega), fun jx => if jx = 49 then .int .i64 0 else s jx, by first | (simp [frP, e6]; done) | (simp [frP, e6]; rfl), by simpa using hsz, ⟨IX.out.x.trans x3, IX.out.bR.ext x3, IX.out.b8.ext x3, (by obtain ⟨c0, c1, c2, c3, BQ, q⟩ := IX.out.bT; exact ⟨c0, c1, c2, c3, BQ.ext x3, q⟩), IX.out.v0, IX.out.v1, IX.out.v2, IX.out.v3, IX.out.v4, IX.out.v5, IX.out.v6, fun _ => rfl, IX.out.v8, IX.out.v10, IX.out.v12, IX.out.v14⟩⟩
      · -- operation 8
        simp only [Region.binds, listed_bit hL] at hdep
        refine wpOp_step rfl (fun K' hK => ?_)
        go_simp
        exact hK _ _ ⟨_, bit_set hL hsz 8 (by omega), fun jx => if jx = 50 then .pointer (some ⟨gT, 0, none⟩) else s jx, by first | (simp [frP]; done) | (simp [frP]; rfl), by simpa using hsz, ⟨I.x, I.bR, I.b8, I.bT, I.v0, I.v1, I.v2, I.v3, I.v4, I.v5, I.v6, I.v7, fun _ => rfl, I.v10, I.v12, I.v14⟩⟩
      · -- operation 9
        simp only [Region.binds, listed_bit hL] at hdep
        have d8 : L 8 = true := by first | simpa [hL] using hdep | (simp [hL, Region.binds] at hdep; simp [hdep])
        have e8 := I.v8 d8
        have d1 : L 1 = true := by first | simpa [hL] using hdep | (simp [hL, Region.binds] at hdep; simp [hdep])
        have e1 := I.v1 d1
        obtain ⟨c0, c1, c2, c3, BQ, p0, p1, p2, p3⟩ := I.bT
        have hc : W.cell? ⟨gT, 0, none⟩ = some c0 := BQ.cell 0
        have hf : W.frozen? ⟨gT, 0, none⟩ = false := BQ.frozen 0
        have hl := BQ.lt
        have HBQ := Lib.hid BQ
        have HP := Lib.hid (And.intro p0 (And.intro p1 (And.intro p2 p3)))
        clear BQ p0 p1 p2 p3
        have IX := Lib.hid I
        clear I
        refine wpOp_step rfl (fun K' hK => ?_)
        rw [e8, e1]
        go_simp
        exact hK _ _ ⟨_, bit_set hL hsz 9 (by omega), s, by first | (simp [frP, e8, e1]; done) | (simp [frP, e8, e1]; rfl), by simpa using hsz, ⟨IX.out.x.setNew (p := ⟨gT, 0, none⟩) HW.out _, IX.out.bR.far (p := ⟨gT, 0, none⟩) NE.out _, IX.out.b8.far (p := ⟨gT, 0, none⟩) NE8.out _, ⟨_, c1, c2, c3, (by have q := HBQ.out.set 0 (.string R.out); simp only [List.setIfInBounds_toArray, List.set_cons_zero, List.set_cons_succ] at q; exact q), fun _ => rfl, HP.out.2.1, HP.out.2.2.1, HP.out.2.2.2⟩, IX.out.v0, IX.out.v1, IX.out.v2, IX.out.v3, IX.out.v4, IX.out.v5, IX.out.v6, IX.out.v7, IX.out.v8, IX.out.v10, IX.out.v12, IX.out.v14⟩⟩
      · -- operation 10
        simp only [Region.binds, listed_bit hL] at hdep
        refine wpOp_step rfl (fun K' hK => ?_)
        go_simp
        exact hK _ _ ⟨_, bit_set hL hsz 10 (by omega), fun jx => if jx = 51 then .pointer (some ⟨gT, 1, none⟩) else s jx, by first | (simp [frP]; done) | (simp [frP]; rfl), by simpa using hsz, ⟨I.x, I.bR, I.b8, I.bT, I.v0, I.v1, I.v2, I.v3, I.v4, I.v5, I.v6, I.v7, I.v8, fun _ => rfl, I.v12, I.v14⟩⟩
      · -- operation 11
        simp only [Region.binds, listed_bit hL] at hdep
        have d10 : L 10 = true := by first | simpa [hL] using hdep | (simp [hL, Region.binds] at hdep; simp [hdep])
        have e10 := I.v10 d10
        have d3 : L 3 = true := by first | simpa [hL] using hdep | (simp [hL, Region.binds] at hdep; simp [hdep])
        have e3 := I.v3 d3
        obtain ⟨c0, c1, c2, c3, BQ, p0, p1, p2, p3⟩ := I.bT
        have hc : W.cell? ⟨gT, 1, none⟩ = some c1 := BQ.cell 1
        have hf : W.frozen? ⟨gT, 1, none⟩ = false := BQ.frozen 1
        have hl := BQ.lt
        have HBQ := Lib.hid BQ
        have HP := Lib.hid (And.intro p0 (And.intro p1 (And.intro p2 p3)))
        clear BQ p0 p1 p2 p3
        have IX := Lib.hid I
        clear I
        refine wpOp_step rfl (fun K' hK => ?_)
        rw [e10, e3]
        go_simp
        exact hK _ _ ⟨_, bit_set hL hsz 11 (by omega), s, by first | (simp [frP, e10, e3]; done) | (simp [frP, e10, e3]; rfl), by simpa using hsz, ⟨IX.out.x.setNew (p := ⟨gT, 1, none⟩) HW.out _, IX.out.bR.far (p := ⟨gT, 1, none⟩) NE.out _, IX.out.b8.far (p := ⟨gT, 1, none⟩) NE8.out _, ⟨c0, _, c2, c3, (by have q := HBQ.out.set 1 (.int .i64 R.how); simp only [List.setIfInBounds_toArray, List.set_cons_zero, List.set_cons_succ] at q; exact q), HP.out.1, fun _ => rfl, HP.out.2.2.1, HP.out.2.2.2⟩, IX.out.v0, IX.out.v1, IX.out.v2, IX.out.v3, IX.out.v4, IX.out.v5, IX.out.v6, IX.out.v7, IX.out.v8, IX.out.v10, IX.out.v12, IX.out.v14⟩⟩
      · -- operation 12
        simp only [Region.binds, listed_bit hL] at hdep
        refine wpOp_step rfl (fun K' hK => ?_)
        go_simp
        exact hK _ _ ⟨_, bit_set hL hsz 12 (by omega), fun jx => if jx = 52 then .pointer (some ⟨gT, 2, none⟩) else s jx, by first | (simp [frP]; done) | (simp [frP]; rfl), by simpa using hsz, ⟨I.x, I.bR, I.b8, I.bT, I.v0, I.v1, I.v2, I.v3, I.v4, I.v5, I.v6, I.v7, I.v8, I.v10, fun _ => rfl, I.v14⟩⟩
      · -- operation 13
        simp only [Region.binds, listed_bit hL] at hdep
        have d12 : L 12 = true := by first | simpa [hL] using hdep | (simp [hL, Region.binds] at hdep; simp [hdep])
        have e12 := I.v12 d12
        have d5 : L 5 = true := by first | simpa [hL] using hdep | (simp [hL, Region.binds] at hdep; simp [hdep])
        have e5 := I.v5 d5
        obtain ⟨c0, c1, c2, c3, BQ, p0, p1, p2, p3⟩ := I.bT
        have hc : W.cell? ⟨gT, 2, none⟩ = some c2 := BQ.cell 2
        have hf : W.frozen? ⟨gT, 2, none⟩ = false := BQ.frozen 2
        have hl := BQ.lt
        have HBQ := Lib.hid BQ
        have HP := Lib.hid (And.intro p0 (And.intro p1 (And.intro p2 p3)))
        clear BQ p0 p1 p2 p3
        have IX := Lib.hid I
        clear I
        refine wpOp_step rfl (fun K' hK => ?_)
        rw [e12, e5]
        go_simp
        exact hK _ _ ⟨_, bit_set hL hsz 13 (by omega), s, by first | (simp [frP, e12, e5]; done) | (simp [frP, e12, e5]; rfl), by simpa using hsz, ⟨IX.out.x.setNew (p := ⟨gT, 2, none⟩) HW.out _, IX.out.bR.far (p := ⟨gT, 2, none⟩) NE.out _, IX.out.b8.far (p := ⟨gT, 2, none⟩) NE8.out _, ⟨c0, c1, _, c3, (by have q := HBQ.out.set 2 (.int .i64 R.exit); simp only [List.setIfInBounds_toArray, List.set_cons_zero, List.set_cons_succ] at q; exact q), HP.out.1, HP.out.2.1, fun _ => rfl, HP.out.2.2.2⟩, IX.out.v0, IX.out.v1, IX.out.v2, IX.out.v3, IX.out.v4, IX.out.v5, IX.out.v6, IX.out.v7, IX.out.v8, IX.out.v10, IX.out.v12, IX.out.v14⟩⟩
      · -- operation 14
        simp only [Region.binds, listed_bit hL] at hdep
        refine wpOp_step rfl (fun K' hK => ?_)
        go_simp
        exact hK _ _ ⟨_, bit_set hL hsz 14 (by omega), fun jx => if jx = 53 then .pointer (some ⟨gT, 6, none⟩) else s jx, by first | (simp [frP]; done) | (simp [frP]; rfl), by simpa using hsz, ⟨I.x, I.bR, I.b8, I.bT, I.v0, I.v1, I.v2, I.v3, I.v4, I.v5, I.v6, I.v7, I.v8, I.v10, I.v12, fun _ => rfl⟩⟩
      · -- operation 15
        simp only [Region.binds, listed_bit hL] at hdep
        have d14 : L 14 = true := by first | simpa [hL] using hdep | (simp [hL, Region.binds] at hdep; simp [hdep])
        have e14 := I.v14 d14
        have d7 : L 7 = true := by first | simpa [hL] using hdep | (simp [hL, Region.binds] at hdep; simp [hdep])
        have e7 := I.v7 d7
        obtain ⟨c0, c1, c2, c3, BQ, p0, p1, p2, p3⟩ := I.bT
        have hc : W.cell? ⟨gT, 6, none⟩ = some c3 := BQ.cell 6
        have hf : W.frozen? ⟨gT, 6, none⟩ = false := BQ.frozen 6
        have hl := BQ.lt
        have HBQ := Lib.hid BQ
        have HP := Lib.hid (And.intro p0 (And.intro p1 (And.intro p2 p3)))
        clear BQ p0 p1 p2 p3
        have IX := Lib.hid I
        clear I
        refine wpOp_step rfl (fun K' hK => ?_)
        rw [e14, e7]
        go_simp
        exact hK _ _ ⟨_, bit_set hL hsz 15 (by omega), s, by first | (simp [frP, e14, e7]; done) | (simp [frP, e14, e7]; rfl), by simpa using hsz, ⟨IX.out.x.setNew (p := ⟨gT, 6, none⟩) HW.out _, IX.out.bR.far (p := ⟨gT, 6, none⟩) NE.out _, IX.out.b8.far (p := ⟨gT, 6, none⟩) NE8.out _, ⟨c0, c1, c2, _, (by have q := HBQ.out.set 6 (.int .i64 0); simp only [List.setIfInBounds_toArray, List.set_cons_zero, List.set_cons_succ] at q; exact q), HP.out.1, HP.out.2.1, HP.out.2.2.1, fun _ => rfl⟩, IX.out.v0, IX.out.v1, IX.out.v2, IX.out.v3, IX.out.v4, IX.out.v5, IX.out.v6, IX.out.v7, IX.out.v8, IX.out.v10, IX.out.v12, IX.out.v14⟩⟩
    · rintro listed act W ⟨L, hL, s, rfl, hsz, I⟩ hr
      have ALL : ∀ i, i < 16 → L i = true := fun i hi => by rw [← hL i]; exact all_listed' (by kernel_rfl) hsz hr i hi
      obtain ⟨c0, c1, c2, c3, BQ, p0, p1, p2, p3⟩ := I.bT
      obtain rfl := p0 (ALL 9 (by omega))
      obtain rfl := p1 (ALL 11 (by omega))
      obtain rfl := p2 (ALL 13 (by omega))
      obtain rfl := p3 (ALL 15 (by omega))
      have BQ := Lib.hid BQ
      have BR2 := Lib.hid I.bR
      have B82 := Lib.hid I.b8
      have XW := Lib.hid I.x
      clear I hL ALL hr hsz p0 p1 p2 p3 BT BR XR B8 CP
      unfold frP
      dsimp only
      obtain ⟨r1, r2, r3⟩ := BR2.out.rules
      obtain ⟨q1, q2, q3⟩ := BQ.out.rules
      obtain ⟨s1, s2, s3⟩ := B82.out.rules
      unfold cellsR at r1
      unfold zeroTr at s1
      have hmk := make_str0
      have ne := NE.out
      have ne8 := NE8.out
      have hcp : ∀ (W : World) (g : Nat), (Builtin.copy_ #[27, 27] 3 #[.slice (some ⟨g, 0, none⟩) 0 0, .slice A4 0 c4]).run Tryz.prog W = .ok (goInt 0) W := fun W g => run_copy_none (P := Tryz.prog) W 27 27 3 9 _ _ 0 0 0 c4 Tryz.underlying27 (by kernel_rfl) rfl
      go_wp2_with fail
      refine bodyPost_ret (v := .agg #[.string R.out, .int .i64 R.how, .int .i64 R.exit, .int .i64 0, .int .i64 0, .slice (some ⟨W.heap.size, 0, none⟩) 0 0, .int .i64 0]) (by simp [results, Tryz.results75, go_sem, s1, s3]) rfl ?_
      exact ⟨⟨_, rfl⟩, ((((((((XW.out.setNew (p := ⟨gT, 5, none⟩) HW.out _).setNew (p := ⟨g8, 0, none⟩) HG8.out _).setNew (p := ⟨g8, 1, none⟩) HG8.out _).setNew (p := ⟨g8, 2, none⟩) HG8.out _).setNew (p := ⟨g8, 3, none⟩) HG8.out _).setNew (p := ⟨g8, 4, none⟩) HG8.out _).setNew (p := ⟨g8, 5, none⟩) HG8.out _).setNew (p := ⟨g8, 6, none⟩) HG8.out _).alloc _⟩
end
end Go.Proofs.YtjpalcejmloocaaGreat.World
