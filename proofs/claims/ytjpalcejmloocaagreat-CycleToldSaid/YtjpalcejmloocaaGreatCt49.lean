/-
  ObjNew, as one text (a claim has at most 60 files).
-/
import Derived.Test.YtjpalcejmloocaaGreatCt48
import Derived.Test.YtjpalcejmloocaaGreatCt29
namespace Go.Proofs.YtjpalcejmloocaaGreat.World
open Go.RowKit Go.Proofs.YtjpalcejmloocaaGreat.Plain
set_option linter.unusedVariables false
attribute [local go_sem ↓] Go.wp_at_zero Go.wp_at_succ
/-! ### the region of object.New -/
structure OI (w : World) (cb ib n : Nat) (vL vD : Value) (R : PR) (re wa du sn : Value) (la most : Int) (cells : Array Value) (Post : Nat → World → Prop) (L : Nat → Bool) (s : Nat → Value) (W : World) : Prop where
  v0 : L 0 = true → s 21 = .pointer (some ⟨cb, 0, none⟩)
  v1 : L 1 = true → s 22 = vL
  v2 : L 2 = true → s 23 = vD
  v3 : L 3 = true → s 24 = .pointer (some ⟨cb, 0, none⟩)
  v4 : L 4 = true → s 25 = vL
  v5 : L 5 = true → s 26 = .int .i64 n
  v6 : L 6 = true → s 27 = .slice (some ⟨ib, 0, none⟩) n n
  v7 : L 7 = true → s 28 = .agg #[vL, vD, .slice (some ⟨ib, 0, none⟩) n n]
  v8 : L 8 = true → s 29 = .pointer (some ⟨ib + 1, 0, none⟩)
  v9 : L 9 = true → s 30 = .iface 70 (.pointer (some ⟨ib + 1, 0, none⟩))
  v10 : L 10 = true → s 31 = .pointer (some ⟨cb, 3, none⟩)
  v11 : L 11 = true → s 32 = .agg (cellsR R re wa du sn)
  v12 : L 12 = true → s 33 = .pointer (some ⟨cb, 2, none⟩)
  v13 : L 13 = true → s 34 = .int .i64 la
  v14 : L 14 = true → s 35 = .int .i64 most
  v17 : L 17 = true → s 5 = .int .i64 0
  k15 : L 15 = true → L 1 = true ∧ L 4 = true ∧ L 11 = true ∧ L 13 = true
  k9 : L 9 = true → L 8 = true
  k8 : L 8 = true → L 7 = true
  k7 : L 7 = true → L 1 = true ∧ L 6 = true
  k6 : L 6 = true → L 5 = true
  k5 : L 5 = true → L 4 = true
  b : L 15 = false → Blk W cb 31 cells
  wA : L 15 = false → L 6 = false → W = w
  wB : L 15 = false → L 6 = true → L 8 = false → W = w.alloc (blkA n)
  wC : L 15 = false → L 8 = true → W = (w.alloc (blkA n)).alloc (blkB vL vD ib n)
  q : L 15 = true → ∃ m, s 36 = .pointer (some ⟨m, 0, none⟩) ∧ Post m W
  v16 : L 16 = true → s 4 = s 36
  q8 : L 15 = true → L 8 = true
  q15 : L 16 = true → L 15 = true
def frO (cb : Nat) (vD : Value) (most : Int) (u s : Nat → Value) : Act := { tmps := #[u 0, .int .i64 most, u 2, u 3, s 4, s 5, .pointer (some ⟨cb, 0, none⟩), vD, u 8, u 9, u 10, u 11, u 12, u 13, u 14, u 15, u 16, u 17, u 18, u 19, u 20, s 21, s 22, s 23, s 24, s 25, s 26, s 27, s 28, s 29, s 30, s 31, s 32, s 33, s 34, s 35, s 36], defers := [] }
def OInv (w : World) (cb ib n : Nat) (vL vD : Value) (R : PR) (re wa du sn : Value) (la most : Int) (cells : Array Value) (Post : Nat → World → Prop) (u : Nat → Value) (listed : Array Bool) (a : Act) (W : World) : Prop :=
  ∃ L : Nat → Bool, (∀ k, listed.getD k false = L k) ∧ ∃ s : Nat → Value, a = frO cb vD most u s ∧ listed.size = 18 ∧ OI w cb ib n vL vD R re wa du sn la most cells Post L s W
theorem make_int (n : Nat) (hn : n ≤ 1000000) (w : World) : (Instr.makeSlice 25 (.int .i64 (n : Int)) (.int .i64 (n : Int))).run Tryz.prog w = .ok (.slice (some ⟨w.heap.size, 0, none⟩) n n) (w.alloc (.cells (Array.replicate n (.int .i64 0)) 3)) := by
  obtain ⟨i0, hi, hz0, hz1, hz2⟩ := info_parts infoI
  have h := run_make (P := Tryz.prog) w 25 3 i0 (.int .i64 0) Tryz.underlying25 hi hz0 .i64 .i64 (n : Int) (n : Int) (by omega) (by omega) (by rw [hz2]; omega) (by omega)
  rw [h]
  have e : madeCells (Value.cells (.int .i64 0)) ((n : Int).toNat * i0.size) = Array.replicate n (.int .i64 0) := by
    rw [hz1, Nat.mul_one, Int.toNat_natCast]
    apply Array.ext
    · simp [madeCells]
    · intro j h1 h2
      simp [madeCells, Value.cells, Nat.mod_one]
  rw [e, Int.toNat_natCast]
theorem infoB1 : (Tryz.prog.info? 4).map (·.size) = some 1 := by kernel_rfl
section
variable {w w' w2 : World} {F F' F2 : Nat → Prop} {m : Nat} {S S' : MS} {X : MX}
set_option maxRecDepth 100000 in
set_option maxHeartbeats 4000000 in
theorem objnew {x : WV} {W : PW} (h : WorldAt w x W) (hc : checkB W = true) (hd : W.dead = []) (most : Int) :
    Calls Tryz.prog 9 #[.agg (cellsW W x), .int .i64 most] w fun e w' => ∃ m F, e = .returned (.tuple #[.pointer (some ⟨m, 0, none⟩), .int .i64 0]) ∧ M w' F m (newS W most) ∧ (∀ k, F k → w.heap.size ≤ k) ∧ Ext w w' := by
  have b0 : W.L.length ≤ 3000 ∧ W.R.ready.length ≤ 3000 ∧ W.R.wait.length ≤ 3000 ∧ W.R.due.length ≤ 3000 ∧ W.R.snaps.length ≤ 3000 := by
    unfold checkB at hc
    simp only [Bool.and_eq_true, decide_eq_true_eq] at hc
    obtain ⟨h1, _, _, _, h5⟩ := hc
    unfold regsB at h5
    simp only [Bool.and_eq_true, decide_eq_true_eq] at h5
    obtain ⟨_, _, _, _, _, _, h6, _⟩ := h5
    omega
  have bF : ∀ i, i < W.L.length → (tAt W.L i).F.length ≤ 60 := fun i hi => (newS_wf hc most).nF i hi
  have C := Lib.hid (fun W2 (e : Ext w W2) => check (W := W) (h.ext e))
  have D := Lib.hid (fun W2 (e : Ext w W2) => copy_ (W := W) (h.ext e) (by omega) (by rw [hd]; simp) (by omega) (by omega) (by omega) (by omega) (fun i hi => by have := bF i hi; omega))
  rw [hc] at C
  obtain ⟨vL, fs, vD0, vRe, vWa, vDu, vSn⟩ := x
  have HH := Lib.hid h
  have HC := Lib.hid hc
  have HD := Lib.hid hd
  have hmi := make_int W.L.length (by omega)
  have hmb := make_bool W.L.length (by omega)
  clear h hc
  unfold cellsW at *
  go_enter Tryz.func9, Tryz.ntmps9
  go_wp2_with fail
  refine (C.out _ ((Ext.refl w).alloc _)).mono ?_
  rintro e w1 ⟨rfl, x1⟩
  have X1 := Lib.hid (((Ext.refl w).alloc _).trans x1)
  obtain ⟨q1, q2, q3⟩ := ((Blk.new w 31 #[vL, vD0, .int .i64 W.last, .int .i64 W.R.proc, .int .i64 W.R.frame, vRe, vWa, vDu, .string W.R.out, .string W.R.inp, .int .i64 W.R.how, .int .i64 W.R.exit, vSn]).ext x1).rules
  clear x1 C
  go_wp2_with fail
  refine (D.out _ X1.out).mono ?_
  clear D q1 q2 q3
  rintro e w3 ⟨⟨x', rfl, N⟩, x3⟩
  obtain ⟨vL', fs', vD', re', wa', du', sn'⟩ := x'
  have N' := Lib.hid N
  have X3 := Lib.hid (X1.out.trans x3)
  obtain ⟨AL, cL, eL⟩ := N.L.form
  have eL : vL' = .slice AL W.L.length cL := eL
  subst eL
  obtain ⟨AD, cD, eD⟩ := N.dead.form
  have eD : vD' = .slice AD W.dead.length cD := eD
  subst eD
  obtain ⟨A1, c1, e1⟩ := N.R.re.form
  obtain ⟨A2, c2, e2⟩ := N.R.wa.form
  obtain ⟨A3, c3, e3⟩ := N.R.du.form
  obtain ⟨A4, c4, e4⟩ := N.R.sn.form
  have e1 : re' = .slice A1 W.R.ready.length c1 := e1
  have e2 : wa' = .slice A2 W.R.wait.length c2 := e2
  have e3 : du' = .slice A3 W.R.due.length c3 := e3
  have e4 : sn' = .slice A4 W.R.snaps.length c4 := e4
  subst e1 e2 e3 e4
  clear N x3
  rw [hd] at *
  go_wp2_with (with_reducible refine wpList_copy_nothing rfl (.tmp 17) (.tmp 19) 24 24 rfl 4 Tryz.underlying24 infoB1 (some ⟨w3.heap.size + 1, 0, none⟩) AD W.L.length W.L.length 0 cD rfl rfl (Nat.zero_min _) ?_)
  · refine wp_name (fun ws hW => ?_)
    have hcbs : w3.heap.size < ws.heap.size := by rw [hW]; simp; omega
    have hsz : ws.heap.size = w3.heap.size + 2 := by rw [hW]; simp
    have hxs : Ext w3 ws := by rw [hW]; exact is_ext _ _
    obtain ⟨cb, hcb⟩ : ∃ cb, cb = w3.heap.size := ⟨_, rfl⟩
    obtain ⟨n, hn⟩ : ∃ n, n = W.L.length := ⟨_, rfl⟩
    obtain ⟨db, hdb⟩ : ∃ v, v = w3.heap.size + 1 := ⟨_, rfl⟩
    obtain ⟨R, hR⟩ : ∃ R, R = W.R := ⟨_, rfl⟩
    obtain ⟨re, hre⟩ : ∃ v, v = Value.slice A1 W.R.ready.length c1 := ⟨_, rfl⟩
    obtain ⟨wa, hwa⟩ : ∃ v, v = Value.slice A2 W.R.wait.length c2 := ⟨_, rfl⟩
    obtain ⟨du, hdu⟩ : ∃ v, v = Value.slice A3 W.R.due.length c3 := ⟨_, rfl⟩
    obtain ⟨sn, hsn⟩ : ∃ v, v = Value.slice A4 W.R.snaps.length c4 := ⟨_, rfl⟩
    obtain ⟨la, hla⟩ : ∃ v, v = W.last := ⟨_, rfl⟩
    obtain ⟨ib, hib⟩ : ∃ v, v = ws.heap.size := ⟨_, rfl⟩
    obtain ⟨cells, hcells⟩ : ∃ v : Array Value, v = #[.slice AL n cL, .slice AD 0 cD, .int .i64 la, .int .i64 R.proc, .int .i64 R.frame, re, wa, du, .string R.out, .string R.inp, .int .i64 R.how, .int .i64 R.exit, sn] := ⟨_, rfl⟩
    have hBc0 : Blk ws cb 31 cells := by
      rw [hW, hcells, hcb, hn, hre, hwa, hdu, hsn, hla, hR]
      exact (Blk.new w3 _ _).alloc _
    have hBd : Blk ws (w3.heap.size + 1) 4 (Array.replicate W.L.length (.bool false)) := by
      rw [hW]
      have e : ∀ o : Obj, w3.heap.size + 1 = (w3.alloc o).heap.size := fun o => (Array.size_push ..).symm
      exact (e _) ▸ Blk.new _ _ _
    obtain ⟨w0, hw0'⟩ : ∃ x, x = ws.drew := ⟨_, rfl⟩
    have hw0 : ws.drew = w0 := hw0'.symm
    have hBc : Blk ws.drew cb 31 cells := hBc0.drew
    have hc0 : cells[0]? = some (.slice AL n cL) := by rw [hcells]; rfl
    have hc2 : cells[2]? = some (.int .i64 la) := by rw [hcells]; rfl
    have hc3 : ∀ j, j < 10 → cells[3 + j]? = (cellsR R re wa du sn)[j]? := by
      intro j hj
      rw [hcells]
      rcases (show j = 0 ∨ j = 1 ∨ j = 2 ∨ j = 3 ∨ j = 4 ∨ j = 5 ∨ j = 6 ∨ j = 7 ∨ j = 8 ∨ j = 9 by omega) with rfl | rfl | rfl | rfl | rfl | rfl | rfl | rfl | rfl | rfl <;> rfl
    obtain ⟨Post, hPost⟩ : ∃ Post : Nat → World → Prop, Post = (fun m w' => ∃ F, M w' F m (newS W most) ∧ (∀ k, F k → w.heap.size ≤ k) ∧ Ext w w') := ⟨_, rfl⟩
    have hcall : Calls Tryz.prog 22 #[.iface 70 (.pointer (some ⟨ib + 1, 0, none⟩)), .agg (cellsR R re wa du sn), .int .i64 la, .int .i64 most] ((w0.alloc (blkA n)).alloc (blkB (.slice AL n cL) (.slice (some ⟨db, 0, none⟩) n n) ib n)) fun e w' => ∃ m, e = .returned (.pointer (some ⟨m, 0, none⟩)) ∧ Post m w' := by
      have z0 : ib = w0.heap.size := by rw [hib, ← hw0]; rfl
      have e1 := objcall (w := w) (x' := ⟨.slice AL W.L.length cL, fs', .slice AD 0 cD, re, wa, du, sn⟩) HC.out most (by rw [hre, hwa, hdu, hsn]; exact N'.out) (X1.out.below.size) (X3.out) (hw0 ▸ hxs.drew : Ext w3 w0) (hdb ▸ (hw0 ▸ hBd.drew : Blk w0 _ _ _)) (by rw [hdb]; have := X3.out.below.size; omega)
      rw [z0, hn, hR, hla, hPost]
      refine e1.mono ?_
      rintro e w' ⟨mm, F, rfl, M1⟩
      exact ⟨mm, rfl, F, M1⟩
    rw [← hn] at hmi
    have HP := Lib.hid hPost
    have HIB : Hid (w0.heap.size = ib) := Lib.hid (by rw [← hw0, hib]; rfl)
    clear hBc0 hBd hW hxs hsz hcbs hw0' hPost hmb N' b0 bF HH X1 X3 hR hre hwa hdu hsn hla hib hcells
    refine wp_any_act (fun A hA => ?_)
    have eA : A = frO cb (.slice (some ⟨db, 0, none⟩) n n) most (fun q => A.tmps.getD q undef) (fun q => A.tmps.getD q undef) := by rw [hA, hn, hdb, hcb]; rfl
    clear hA hn hdb hcb
    generalize (fun q => A.tmps.getD q undef) = u at eA
    subst eA
    refine wp_region_inv (Inv := OInv w0 cb ib n (.slice AL n cL) (.slice (some ⟨db, 0, none⟩) n n) R re wa du sn la most cells Post u) (by kernel_rfl) ?_ ?_ ?_
    · refine ⟨fun _ => false, fun k => ?_, u, rfl, by simp, ⟨?_, ?_, ?_, ?_, ?_, ?_, ?_, ?_, ?_, ?_, ?_, ?_, ?_, ?_, ?_, ?_, ?_, ?_, ?_, ?_, ?_, ?_, ?_, ?_, ?_, ?_, ?_, ?_, ?_, ?_⟩⟩
      · rw [Array.getD_eq_getD_getElem?, Array.getElem?_replicate]; split <;> rfl
      all_goals first | (intro h; exact absurd h (by decide)) | (intro _ h; exact absurd h (by decide)) | (intro _ h; exact hw0) | (intro _ ; exact hBc)
    · rintro listed a w2 i ⟨L, hL, s, rfl, hsz, I⟩ hi
      obtain ⟨hlt, hnot, hdep⟩ := (ready_iff _ _).1 hi
      have hi18 : i < 18 := hlt
      have cases18 : i = 0 ∨ i = 1 ∨ i = 2 ∨ i = 3 ∨ i = 4 ∨ i = 5 ∨ i = 6 ∨ i = 7 ∨ i = 8 ∨ i = 9 ∨ i = 10 ∨ i = 11 ∨ i = 12 ∨ i = 13 ∨ i = 14 ∨ i = 15 ∨ i = 16 ∨ i = 17 := by omega
      have hn0 : L i = false := by rw [← hL i]; exact not_bit hnot
      clear hi hlt hi18 hnot
      unfold frO
      rcases cases18 with rfl | rfl | rfl | rfl | rfl | rfl | rfl | rfl | rfl | rfl | rfl | rfl | rfl | rfl | rfl | rfl | rfl | rfl
      · -- operation 0
        simp only [Region.binds, listed_bit hL] at hdep
        refine wpOp_step rfl (fun K' hK => ?_)
        go_simp
        exact hK _ _ ⟨_, bit_set hL hsz 0 (by omega), fun j => if j = 21 then .pointer (some ⟨cb, 0, none⟩) else s j, by simp [frO], by simpa using hsz, ⟨fun _ => rfl, I.v1, I.v2, I.v3, I.v4, I.v5, I.v6, I.v7, I.v8, I.v9, I.v10, I.v11, I.v12, I.v13, I.v14, I.v17, I.k15, I.k9, I.k8, I.k7, I.k6, I.k5, I.b, I.wA, I.wB, I.wC, I.q, I.v16, I.q8, I.q15⟩⟩
      · -- operation 1
        simp only [Region.binds, listed_bit hL] at hdep
        have d0 : L 0 = true := by first | simpa [hL] using hdep | (simp [hL, Region.binds] at hdep; simp [hdep])
        have e0 := I.v0 d0
        have n15 : L 15 = false := by cases hh : L 15 with | false => rfl | true => rw [(I.k15 hh).1] at hn0; cases hn0
        have hB := I.b n15
        have hc := (hB.cell 0).trans hc0
        refine wpOp_step rfl (fun K' hK => ?_)
        rw [e0]
        go_simp
        exact hK _ _ ⟨_, bit_set hL hsz 1 (by omega), fun j => if j = 22 then (.slice AL n cL) else s j, by simp [frO, e0], by simpa using hsz, ⟨I.v0, fun _ => rfl, I.v2, I.v3, I.v4, I.v5, I.v6, I.v7, I.v8, I.v9, I.v10, I.v11, I.v12, I.v13, I.v14, I.v17, fun h => ⟨rfl, (I.k15 h).2⟩, I.k9, I.k8, fun h => ⟨rfl, (I.k7 h).2⟩, I.k6, I.k5, I.b, I.wA, I.wB, I.wC, I.q, I.v16, I.q8, I.q15⟩⟩
      · -- operation 2
        simp only [Region.binds, listed_bit hL] at hdep
        refine wpOp_step rfl (fun K' hK => ?_)
        go_simp
        exact hK _ _ ⟨_, bit_set hL hsz 2 (by omega), fun j => if j = 23 then (.slice (some ⟨db, 0, none⟩) n n) else s j, by simp [frO], by simpa using hsz, ⟨I.v0, I.v1, fun _ => rfl, I.v3, I.v4, I.v5, I.v6, I.v7, I.v8, I.v9, I.v10, I.v11, I.v12, I.v13, I.v14, I.v17, I.k15, I.k9, I.k8, I.k7, I.k6, I.k5, I.b, I.wA, I.wB, I.wC, I.q, I.v16, I.q8, I.q15⟩⟩
      · -- operation 3
        simp only [Region.binds, listed_bit hL] at hdep
        refine wpOp_step rfl (fun K' hK => ?_)
        go_simp
        exact hK _ _ ⟨_, bit_set hL hsz 3 (by omega), fun j => if j = 24 then .pointer (some ⟨cb, 0, none⟩) else s j, by simp [frO], by simpa using hsz, ⟨I.v0, I.v1, I.v2, fun _ => rfl, I.v4, I.v5, I.v6, I.v7, I.v8, I.v9, I.v10, I.v11, I.v12, I.v13, I.v14, I.v17, I.k15, I.k9, I.k8, I.k7, I.k6, I.k5, I.b, I.wA, I.wB, I.wC, I.q, I.v16, I.q8, I.q15⟩⟩
      · -- operation 4
        simp only [Region.binds, listed_bit hL] at hdep
        have d3 : L 3 = true := by first | simpa [hL] using hdep | (simp [hL, Region.binds] at hdep; simp [hdep])
        have e3 := I.v3 d3
        have n15 : L 15 = false := by cases hh : L 15 with | false => rfl | true => rw [(I.k15 hh).2.1] at hn0; cases hn0
        have hB := I.b n15
        have hc := (hB.cell 0).trans hc0
        refine wpOp_step rfl (fun K' hK => ?_)
        rw [e3]
        go_simp
        exact hK _ _ ⟨_, bit_set hL hsz 4 (by omega), fun j => if j = 25 then (.slice AL n cL) else s j, by simp [frO, e3], by simpa using hsz, ⟨I.v0, I.v1, I.v2, I.v3, fun _ => rfl, I.v5, I.v6, I.v7, I.v8, I.v9, I.v10, I.v11, I.v12, I.v13, I.v14, I.v17, fun h => ⟨(I.k15 h).1, rfl, (I.k15 h).2.2⟩, I.k9, I.k8, I.k7, I.k6, fun _ => rfl, I.b, I.wA, I.wB, I.wC, I.q, I.v16, I.q8, I.q15⟩⟩
      · -- operation 5
        simp only [Region.binds, listed_bit hL] at hdep
        have d4 : L 4 = true := by first | simpa [hL] using hdep | (simp [hL, Region.binds] at hdep; simp [hdep])
        have e4 := I.v4 d4
        refine wpOp_step rfl (fun K' hK => ?_)
        rw [e4]
        go_simp
        exact hK _ _ ⟨_, bit_set hL hsz 5 (by omega), fun j => if j = 26 then .int .i64 n else s j, by simp [frO, e4], by simpa using hsz, ⟨I.v0, I.v1, I.v2, I.v3, I.v4, fun _ => rfl, I.v6, I.v7, I.v8, I.v9, I.v10, I.v11, I.v12, I.v13, I.v14, I.v17, I.k15, I.k9, I.k8, I.k7, fun _ => rfl, fun _ => d4, I.b, I.wA, I.wB, I.wC, I.q, I.v16, I.q8, I.q15⟩⟩
      · -- operation 6
        simp only [Region.binds, listed_bit hL] at hdep
        have d5 : L 5 = true := by first | simpa [hL] using hdep | (simp [hL, Region.binds] at hdep; simp [hdep])
        have e5 := I.v5 d5
        have n8 : L 8 = false := by cases hh : L 8 with | false => rfl | true => rw [(I.k7 (I.k8 hh)).2] at hn0; cases hn0
        have n15 : L 15 = false := by cases hh : L 15 with | false => rfl | true => exact absurd (I.q8 hh) (by rw [n8]; decide)
        have HW := Lib.hid (I.wA n15 hn0)
        have hs : w2.heap.size = ib := by rw [HW.out]; exact HIB.out
        refine wpOp_step rfl (fun K' hK => ?_)
        rw [e5]
        go_simp
        exact hK _ _ ⟨_, bit_set hL hsz 6 (by omega), fun j => if j = 27 then .slice (some ⟨ib, 0, none⟩) n n else s j, by simp [frO, e5], by simpa using hsz, ⟨I.v0, I.v1, I.v2, I.v3, I.v4, I.v5, fun _ => rfl, I.v7, I.v8, I.v9, I.v10, I.v11, I.v12, I.v13, I.v14, I.v17, I.k15, I.k9, I.k8, fun h => ⟨(I.k7 h).1, rfl⟩, fun _ => d5, I.k5, fun h => (I.b h).alloc _, fun _ h => absurd h (by simp), fun _ _ _ => by rw [HW.out]; rfl, fun _ h => absurd (show L 8 = true from h) (by rw [n8]; decide), fun h => absurd (show L 15 = true from h) (by rw [n15]; decide), I.v16, I.q8, I.q15⟩⟩
      · -- operation 7
        simp only [Region.binds, listed_bit hL] at hdep
        have d1 : L 1 = true := by first | simpa [hL] using hdep | (simp [hL, Region.binds] at hdep; simp [hdep])
        have e1 := I.v1 d1
        have d2 : L 2 = true := by first | simpa [hL] using hdep | (simp [hL, Region.binds] at hdep; simp [hdep])
        have e2 := I.v2 d2
        have d6 : L 6 = true := by first | simpa [hL] using hdep | (simp [hL, Region.binds] at hdep; simp [hdep])
        have e6 := I.v6 d6
        refine wpOp_step rfl (fun K' hK => ?_)
        rw [e1, e2, e6]
        go_simp
        exact hK _ _ ⟨_, bit_set hL hsz 7 (by omega), fun j => if j = 28 then .agg #[(.slice AL n cL), (.slice (some ⟨db, 0, none⟩) n n), .slice (some ⟨ib, 0, none⟩) n n] else s j, by simp [frO, e1, e2, e6], by simpa using hsz, ⟨I.v0, I.v1, I.v2, I.v3, I.v4, I.v5, I.v6, fun _ => rfl, I.v8, I.v9, I.v10, I.v11, I.v12, I.v13, I.v14, I.v17, I.k15, I.k9, fun _ => rfl, fun _ => ⟨d1, d6⟩, I.k6, I.k5, I.b, I.wA, I.wB, I.wC, I.q, I.v16, I.q8, I.q15⟩⟩
      · -- operation 8
        simp only [Region.binds, listed_bit hL] at hdep
        have d7 : L 7 = true := by first | simpa [hL] using hdep | (simp [hL, Region.binds] at hdep; simp [hdep])
        have e7 := I.v7 d7
        have n15 : L 15 = false := by cases hh : L 15 with | false => rfl | true => exact absurd (I.q8 hh) (by rw [hn0]; decide)
        have HW := Lib.hid (I.wB n15 (I.k7 d7).2 hn0)
        have hs : w2.heap.size = ib + 1 := by rw [HW.out, ← HIB.out]; exact Array.size_push ..
        refine wpOp_step rfl (fun K' hK => ?_)
        rw [e7]
        go_simp
        exact hK _ _ ⟨_, bit_set hL hsz 8 (by omega), fun j => if j = 29 then .pointer (some ⟨ib + 1, 0, none⟩) else s j, by simp [frO, e7], by simpa using hsz, ⟨I.v0, I.v1, I.v2, I.v3, I.v4, I.v5, I.v6, I.v7, fun _ => rfl, I.v9, I.v10, I.v11, I.v12, I.v13, I.v14, I.v17, I.k15, fun _ => rfl, fun _ => d7, I.k7, I.k6, I.k5, fun h => (I.b h).alloc _, fun _ h => absurd (show L 6 = false from h) (by rw [(I.k7 d7).2]; decide), fun _ _ h => absurd h (by simp), fun _ _ => by rw [HW.out]; rfl, fun h => absurd (show L 15 = true from h) (by rw [n15]; decide), I.v16, fun _ => rfl, I.q15⟩⟩
      · -- operation 9
        simp only [Region.binds, listed_bit hL] at hdep
        have d8 : L 8 = true := by first | simpa [hL] using hdep | (simp [hL, Region.binds] at hdep; simp [hdep])
        have e8 := I.v8 d8
        refine wpOp_step rfl (fun K' hK => ?_)
        rw [e8]
        go_simp
        exact hK _ _ ⟨_, bit_set hL hsz 9 (by omega), fun j => if j = 30 then .iface 70 (.pointer (some ⟨ib + 1, 0, none⟩)) else s j, by simp [frO, e8], by simpa using hsz, ⟨I.v0, I.v1, I.v2, I.v3, I.v4, I.v5, I.v6, I.v7, I.v8, fun _ => rfl, I.v10, I.v11, I.v12, I.v13, I.v14, I.v17, I.k15, fun _ => d8, I.k8, I.k7, I.k6, I.k5, I.b, I.wA, I.wB, I.wC, I.q, I.v16, I.q8, I.q15⟩⟩
      · -- operation 10
        simp only [Region.binds, listed_bit hL] at hdep
        refine wpOp_step rfl (fun K' hK => ?_)
        go_simp
        exact hK _ _ ⟨_, bit_set hL hsz 10 (by omega), fun j => if j = 31 then .pointer (some ⟨cb, 3, none⟩) else s j, by simp [frO], by simpa using hsz, ⟨I.v0, I.v1, I.v2, I.v3, I.v4, I.v5, I.v6, I.v7, I.v8, I.v9, fun _ => rfl, I.v11, I.v12, I.v13, I.v14, I.v17, I.k15, I.k9, I.k8, I.k7, I.k6, I.k5, I.b, I.wA, I.wB, I.wC, I.q, I.v16, I.q8, I.q15⟩⟩
      · -- operation 11
        simp only [Region.binds, listed_bit hL] at hdep
        have d10 : L 10 = true := by first | simpa [hL] using hdep | (simp [hL, Region.binds] at hdep; simp [hdep])
        have e10 := I.v10 d10
        have n15 : L 15 = false := by cases hh : L 15 with | false => rfl | true => rw [(I.k15 hh).2.2.1] at hn0; cases hn0
        have hB := I.b n15
        have hcs : ∀ j, j < 10 → w2.cell? ⟨cb, 3 + j, none⟩ = (cellsR R re wa du sn)[j]? := fun j hj => by rw [hB.cell]; exact hc3 j hj
        have y0 := hcs 0 (by omega)
        have y1 := hcs 1 (by omega)
        have y2 := hcs 2 (by omega)
        have y3 := hcs 3 (by omega)
        have y4 := hcs 4 (by omega)
        have y5 := hcs 5 (by omega)
        have y6 := hcs 6 (by omega)
        have y7 := hcs 7 (by omega)
        have y8 := hcs 8 (by omega)
        have y9 := hcs 9 (by omega)
        clear hcs
        simp only [cellsR, Nat.reduceAdd, Nat.add_zero] at y0 y1 y2 y3 y4 y5 y6 y7 y8 y9
        refine wpOp_step rfl (fun K' hK => ?_)
        rw [e10]
        go_simp
        exact hK _ _ ⟨_, bit_set hL hsz 11 (by omega), fun j => if j = 32 then .agg (cellsR R re wa du sn) else s j, by simp [frO, e10, cellsR], by simpa using hsz, ⟨I.v0, I.v1, I.v2, I.v3, I.v4, I.v5, I.v6, I.v7, I.v8, I.v9, I.v10, fun _ => rfl, I.v12, I.v13, I.v14, I.v17, fun h => ⟨(I.k15 h).1, (I.k15 h).2.1, rfl, (I.k15 h).2.2.2⟩, I.k9, I.k8, I.k7, I.k6, I.k5, I.b, I.wA, I.wB, I.wC, I.q, I.v16, I.q8, I.q15⟩⟩
      · -- operation 12
        simp only [Region.binds, listed_bit hL] at hdep
        refine wpOp_step rfl (fun K' hK => ?_)
        go_simp
        exact hK _ _ ⟨_, bit_set hL hsz 12 (by omega), fun j => if j = 33 then .pointer (some ⟨cb, 2, none⟩) else s j, by simp [frO], by simpa using hsz, ⟨I.v0, I.v1, I.v2, I.v3, I.v4, I.v5, I.v6, I.v7, I.v8, I.v9, I.v10, I.v11, fun _ => rfl, I.v13, I.v14, I.v17, I.k15, I.k9, I.k8, I.k7, I.k6, I.k5, I.b, I.wA, I.wB, I.wC, I.q, I.v16, I.q8, I.q15⟩⟩
      · -- operation 13
        simp only [Region.binds, listed_bit hL] at hdep
        have d12 : L 12 = true := by first | simpa [hL] using hdep | (simp [hL, Region.binds] at hdep; simp [hdep])
        have e12 := I.v12 d12
        have n15 : L 15 = false := by cases hh : L 15 with | false => rfl | true => rw [(I.k15 hh).2.2.2] at hn0; cases hn0
        have hB := I.b n15
        have hc := (hB.cell 2).trans hc2
        refine wpOp_step rfl (fun K' hK => ?_)
        rw [e12]
        go_simp
        exact hK _ _ ⟨_, bit_set hL hsz 13 (by omega), fun j => if j = 34 then .int .i64 la else s j, by simp [frO, e12], by simpa using hsz, ⟨I.v0, I.v1, I.v2, I.v3, I.v4, I.v5, I.v6, I.v7, I.v8, I.v9, I.v10, I.v11, I.v12, fun _ => rfl, I.v14, I.v17, fun h => ⟨(I.k15 h).1, (I.k15 h).2.1, (I.k15 h).2.2.1, rfl⟩, I.k9, I.k8, I.k7, I.k6, I.k5, I.b, I.wA, I.wB, I.wC, I.q, I.v16, I.q8, I.q15⟩⟩
      · -- operation 14
        simp only [Region.binds, listed_bit hL] at hdep
        refine wpOp_step rfl (fun K' hK => ?_)
        go_simp
        exact hK _ _ ⟨_, bit_set hL hsz 14 (by omega), fun j => if j = 35 then .int .i64 most else s j, by simp [frO], by simpa using hsz, ⟨I.v0, I.v1, I.v2, I.v3, I.v4, I.v5, I.v6, I.v7, I.v8, I.v9, I.v10, I.v11, I.v12, I.v13, fun _ => rfl, I.v17, I.k15, I.k9, I.k8, I.k7, I.k6, I.k5, I.b, I.wA, I.wB, I.wC, I.q, I.v16, I.q8, I.q15⟩⟩
      · -- operation 15
        simp only [Region.binds, listed_bit hL] at hdep
        have d9 : L 9 = true := by first | simpa [hL] using hdep | (simp [hL, Region.binds] at hdep; simp [hdep])
        have e9 := I.v9 d9
        have d11 : L 11 = true := by first | simpa [hL] using hdep | (simp [hL, Region.binds] at hdep; simp [hdep])
        have e11 := I.v11 d11
        have d13 : L 13 = true := by first | simpa [hL] using hdep | (simp [hL, Region.binds] at hdep; simp [hdep])
        have e13 := I.v13 d13
        have d14 : L 14 = true := by first | simpa [hL] using hdep | (simp [hL, Region.binds] at hdep; simp [hdep])
        have e14 := I.v14 d14
        refine wpOp_step rfl (fun K' hK => ?_)
        rw [e9, e11, e13, e14]
        go_simp
        have hw := I.wC hn0 (I.k9 d9)
        rw [hw]
        refine hcall.mono ?_
        rintro e w3 ⟨mm, rfl, po⟩
        exact hK _ _ ⟨_, bit_set hL hsz 15 (by omega), fun j => if j = 36 then .pointer (some ⟨mm, 0, none⟩) else s j, by simp [frO, e9, e11, e13, e14], by simpa using hsz, ⟨I.v0, I.v1, I.v2, I.v3, I.v4, I.v5, I.v6, I.v7, I.v8, I.v9, I.v10, I.v11, I.v12, I.v13, I.v14, I.v17, fun _ => ⟨(I.k7 (I.k8 (I.k9 d9))).1, I.k5 (I.k6 (I.k7 (I.k8 (I.k9 d9))).2), d11, d13⟩, I.k9, I.k8, I.k7, I.k6, I.k5, fun h => absurd h (by simp), fun h => absurd h (by simp), fun h => absurd h (by simp), fun h => absurd h (by simp), fun _ => ⟨mm, rfl, po⟩, fun h => absurd (I.q15 h) (by rw [hn0]; decide), fun _ => I.k9 d9, fun _ => rfl⟩⟩
      · -- operation 16
        simp only [Region.binds, listed_bit hL] at hdep
        have d15 : L 15 = true := by first | simpa [hL] using hdep | (simp [hL, Region.binds] at hdep; simp [hdep])
        refine wpOp_step rfl (fun K' hK => ?_)
        go_simp
        exact hK _ _ ⟨_, bit_set hL hsz 16 (by omega), fun j => if j = 4 then s 36 else s j, by simp [frO], by simpa using hsz, ⟨I.v0, I.v1, I.v2, I.v3, I.v4, I.v5, I.v6, I.v7, I.v8, I.v9, I.v10, I.v11, I.v12, I.v13, I.v14, I.v17, I.k15, I.k9, I.k8, I.k7, I.k6, I.k5, I.b, I.wA, I.wB, I.wC, I.q, fun _ => rfl, I.q8, fun _ => d15⟩⟩
      · -- operation 17
        simp only [Region.binds, listed_bit hL] at hdep
        refine wpOp_step rfl (fun K' hK => ?_)
        go_simp
        exact hK _ _ ⟨_, bit_set hL hsz 17 (by omega), fun j => if j = 5 then .int .i64 0 else s j, by simp [frO], by simpa using hsz, ⟨I.v0, I.v1, I.v2, I.v3, I.v4, I.v5, I.v6, I.v7, I.v8, I.v9, I.v10, I.v11, I.v12, I.v13, I.v14, fun _ => rfl, I.k15, I.k9, I.k8, I.k7, I.k6, I.k5, I.b, I.wA, I.wB, I.wC, I.q, I.v16, I.q8, I.q15⟩⟩
    · rintro listed a w2 ⟨L, hL, s, rfl, hsz, I⟩ hr
      have ALL : ∀ i, i < 18 → L i = true := fun i hi => by rw [← hL i]; exact all_listed_m (by kernel_rfl) hsz hr i hi
      have r5 := I.v17 (ALL 17 (by omega))
      have r4 := I.v16 (ALL 16 (by omega))
      obtain ⟨mm, r36, po⟩ := I.q (ALL 15 (by omega))
      rw [r36] at r4
      clear I hL ALL hr hsz
      unfold frO
      rw [r4, r5]
      clear r4 r5 r36
      rw [HP.out] at po
      obtain ⟨FF, M1, M2, M3⟩ := po
      have MM := Lib.hid (And.intro M1 (And.intro M2 M3))
      clear M1 M2 M3 hcall HP hmi
      go_wp2_with fail
      go_ret2
      exact ⟨mm, FF, rfl, MM.out⟩
end
end Go.Proofs.YtjpalcejmloocaaGreat.World
