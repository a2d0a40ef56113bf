/-
  Image3, as one text (a claim has at most 60 files).
-/
import Derived.Test.YtjpalcejmloocaaGreatCt05
namespace Go.Proofs.YtjpalcejmloocaaGreat.World
open Go.RowKit Go.Proofs.YtjpalcejmloocaaGreat.Plain
set_option linter.unusedVariables false
attribute [local go_sem ↓] Go.wp_at_zero Go.wp_at_succ

section
variable {w : World} {x : WV} {W : PW}
set_option maxRecDepth 100000 in
set_option maxHeartbeats 1000000 in
theorem thing1 {wb : Nat} (h : WorldAt w x W) (hd : deadOk W) (hb : Box w wb W x) (v : PV) : Calls Tryz.prog 85 #[.agg #[.bool v.obj, .int .i64 v.n], .pointer (some ⟨wb, 0, none⟩)] w fun e w' => e = .returned (.bool (!(!v.obj || liveB W v.n))) ∧ Ext w w' := by
  have HA := Lib.hid (fun w' (e : Ext w w') => alive (h.ext e) hd v.n)
  obtain ⟨vL, fs, vD, vRe, vWa, vDu, vSn⟩ := x
  obtain ⟨r1, r2, r3⟩ := Blk.rules hb
  unfold cellsW at r1 HA
  generalize liveB W v.n = q at *
  clear h hb
  cases hv : v.obj with
  | true =>
    go_enter Tryz.func85, Tryz.ntmps85
    go_wp2_with fail
    refine (HA.out _ ((Ext.refl _).alloc _)).mono ?_
    rintro e w1 ⟨rfl, x1⟩
    go_wp2_with fail
    go_ret
    exact ⟨ret_bool (by simp), ((Ext.refl _).alloc _).trans x1⟩
  | false =>
    go_enter Tryz.func85, Tryz.ntmps85
    go_wp2
    go_ret
    exact ⟨ret_bool (by simp), (Ext.refl _).alloc _⟩
/-- a thing's cells in a list of things -/
theorem ThingsAt.cells {A : Option Addr} {n cap : Nat} {L : List PT} {fs : Nat → Value} (h : ThingsAt w (.slice A n cap) L fs) (hn : n = L.length) (i : Nat) (hi : i < n) :
    ∃ b off, A = some ⟨b, off, none⟩ ∧ b < w.heap.size ∧ w.cell? ⟨b, off + i * 6, none⟩ = some (.int .i64 (tAt L i).cls) ∧ w.cell? ⟨b, off + i * 6 + 1, none⟩ = some (.int .i64 (tAt L i).fmt) ∧ w.cell? ⟨b, off + i * 6 + 2, none⟩ = some (.int .i64 (tAt L i).hash) ∧
      w.cell? ⟨b, off + i * 6 + 3, none⟩ = some (.bool (tAt L i).fin) ∧ w.cell? ⟨b, off + i * 6 + 4, none⟩ = some (fs i) ∧ w.cell? ⟨b, off + i * 6 + 5, none⟩ = some (.string (tAt L i).B) := by
  subst hn
  obtain ⟨b, off, e, hb, hc⟩ := h.row.at_ i hi
  exact ⟨b, off, e, hb, hc 0 (by omega), hc 1 (by omega), hc 2 (by omega), hc 3 (by omega), hc 4 (by omega), hc 5 (by omega)⟩
theorem tAt_mem {L : List PT} {i : Nat} (hi : i < L.length) : tAt L i ∈ L := by
  unfold tAt; rw [List.getD_eq_getElem?_getD, List.getElem?_eq_getElem hi]; exact List.getElem_mem hi
set_option maxRecDepth 100000 in
set_option maxHeartbeats 4000000 in
theorem thing (h : WorldAt w x W) (hd : deadOk W) (i : Nat) (hi : i < W.L.length) : Calls Tryz.prog 51 #[.agg (cellsW W x), .int .i64 i] w fun e w' => e = .returned (.bool (thingB W i)) ∧ Ext w w' := by
  have HH := Lib.hid h
  have HD := Lib.hid hd
  have hnum := h.nums.things _ (tAt_mem hi)
  have E : Hid (thingB W i = (decide (0 ≤ (tAt W.L i).cls ∧ (tAt W.L i).cls < W.L.length) && (shapeB W.L.length (tAt W.L i) &&
    (if liveB W i then liveB W (tAt W.L i).cls && (isClsB (tAt W.L (tAt W.L i).cls.toNat) && liveF W (tAt W.L i).F) else decide (23 ≤ i))))) := rfl
  obtain ⟨vL, fs, vD, vRe, vWa, vDu, vSn⟩ := x
  obtain ⟨AL, cL, e1, l1, l2⟩ := h.L.row.form
  have e1 : vL = .slice AL W.L.length cL := e1
  subst e1
  obtain ⟨b, off, rfl, hb, c0, c1, c2, c3, c4, c5⟩ := h.L.cells rfl i hi
  replace c4 : w.cell? ⟨b, off + i * 6 + 4, none⟩ = some (fs i) := c4
  have vt : ValsAt w (fs i) (tAt W.L i).F := h.L.flds i hi
  obtain ⟨AF, cF, ef, f1, f2⟩ := Row.form vt
  rw [ef] at vt c4
  have VT := Lib.hid vt
  have HS := Lib.hid (fun w' (e : Ext w w') => shape (h.ext e) (VT.out.ext e) hnum.2.2.2.1)
  have HA := Lib.hid (fun w' (e : Ext w w') (a : Int) => alive (h.ext e) hd a)
  have HI := Lib.hid (fun w' (e : Ext w w') (j : Nat) (hj : j < W.L.length) => isClass ((h.L.flds j hj).ext e))
  have HT := Lib.hid (fun (j : Nat) (hj : j < W.L.length) => h.L.cells rfl j hj)
  unfold thingV at HS HI
  have iI : (i : Int) < (W.L.length : Int) := by omega
  have hcl := hnum.1
  unfold in64 at hcl
  unfold cellsW at HS HA ⊢
  clear h hd hnum ef vt
  generalize hn : W.L.length = n at *
  have HN := Lib.hid hn
  clear hn
  generalize ht : tAt W.L i = t at *
  clear ht
  by_cases hc : 0 ≤ t.cls ∧ t.cls < (n : Int)
  · rw [decide_eq_true hc, Bool.true_and] at E
    obtain ⟨hc1, hc2⟩ := hc
    obtain ⟨k, hk⟩ := Int.eq_ofNat_of_zero_le hc1
    rw [hk] at E c0 hc2
    rw [Int.toNat_natCast] at E
    have hkn : k < n := by omega
    have hk0 : 0 ≤ (k : Int) := by omega
    have HKk := Lib.hid hk
    cases hsb : shapeB n t with
    | false =>
      rw [hsb] at E HS
      rw [hk] at HS
      clear hc1 hk hcl hsb
      go_enter Tryz.func51, Tryz.ntmps51
      go_wp2_with fail
      refine (HS.out _ (((Ext.refl _).alloc _).alloc _)).mono ?_
      rintro e w1 ⟨rfl, x1⟩
      go_wp2_with fail
      go_ret
      exact ⟨ret_bool (by rw [E.out]; rfl), (((Ext.refl _).alloc _).alloc _).trans x1⟩
    | true =>
      rw [hsb, Bool.true_and] at E
      rw [hsb, hk] at HS
      clear hc1 hk hcl hsb
      have HLi := fun w' (e : Ext w w') => HA.out w' e (i : Int)
      have HLk := fun w' (e : Ext w w') => HA.out w' e (k : Int)
      cases hli : liveB W i with
      | false =>
        rw [hli] at E
        simp only [hli] at HLi
        have HLi := Lib.hid HLi
        clear HLk hli
        have E2 : Hid (thingB W i = decide (23 ≤ (i : Int))) := Lib.hid (by rw [E.out, if_neg (by decide)]; exact decide_eq_decide.2 (by omega))
        go_enter Tryz.func51, Tryz.ntmps51
        go_wp2_with fail
        refine calls_name (fun W0 hW => ?_)
        have BT := Blk.new' hW
        have BW : Blk W0 w.heap.size _ _ := (Blk.new w _ _).alloc' hW
        have X0 := ((Ext.refl w).alloc _).alloc' hW
        simp only [World.size_alloc] at BT
        clear hW
        refine (HS.out _ X0).mono ?_
        rintro e w1 ⟨rfl, x1⟩
        obtain ⟨r1, r2, r3⟩ := (BW.ext x1).rules
        have X1 := Lib.hid (X0.trans x1)
        clear x1 X0 BT BW
        go_wp2_with fail
        refine (HLi.out _ X1.out).mono ?_
        rintro e w2 ⟨rfl, x2⟩
        go_wp2_with fail
        go_ret
        exact ⟨ret_bool (by rw [E2.out]), X1.out.trans x2⟩
      | true =>
        rw [hli, if_pos rfl] at E
        simp only [hli] at HLi
        replace HLi := Lib.hid HLi
        cases hlk : liveB W k with
        | false =>
          rw [hlk] at E
          simp only [hlk] at HLk
          replace HLk := Lib.hid HLk
          clear hli hlk
          go_enter Tryz.func51, Tryz.ntmps51
          go_wp2_with fail
          refine calls_name (fun W0 hW => ?_)
          have BT := Blk.new' hW
          have BW : Blk W0 w.heap.size _ _ := (Blk.new w _ _).alloc' hW
          have X0 := ((Ext.refl w).alloc _).alloc' hW
          simp only [World.size_alloc] at BT
          clear hW
          refine (HS.out _ X0).mono ?_
          rintro e w1 ⟨rfl, x1⟩
          obtain ⟨r1, r2, r3⟩ := (BW.ext x1).rules
          have BT1 := Lib.hid (BT.ext x1)
          have BW1 := Lib.hid (BW.ext x1)
          have X1 := Lib.hid (X0.trans x1)
          clear x1 X0 BT BW
          go_wp2_with fail
          refine (HLi.out _ X1.out).mono ?_
          rintro e w2 ⟨rfl, x2⟩
          clear r1 r2 r3
          obtain ⟨r1, r2, r3⟩ := (BW1.out.ext x2).rules
          obtain ⟨s1, s2, s3⟩ := (BT1.out.ext x2).rules
          have BT2 := Lib.hid (BT1.out.ext x2)
          have BW2 := Lib.hid (BW1.out.ext x2)
          have X2 := Lib.hid (X1.out.trans x2)
          clear x2 BT1 BW1 X1
          go_wp2_with fail
          refine (HLk.out _ X2.out).mono ?_
          rintro e w3 ⟨rfl, x3⟩
          clear r1 r2 r3 s1 s2 s3
          go_wp2_with fail
          go_ret
          exact ⟨ret_bool (by rw [E.out]; rfl), X2.out.trans x3⟩
        | true =>
          rw [hlk, Bool.true_and] at E
          simp only [hlk] at HLk
          replace HLk := Lib.hid HLk
          clear hli hlk
          obtain ⟨b', off', e', _, d0, d1, d2, d3, d4, d5⟩ := HT.out k hkn
          injection e' with e'
          injection e' with e1 e2
          subst e1 e2
          replace d4 : w.cell? ⟨b, off + k * 6 + 4, none⟩ = some (fs k) := d4
          have vk := HI.out
          have HIk := fun w' (e : Ext w w') => HI.out w' e k hkn
          replace HIk : ∀ w', Ext w w' → Calls Tryz.prog 83 #[.agg #[.int .i64 (tAt W.L k).cls, .int .i64 (tAt W.L k).fmt, .int .i64 (tAt W.L k).hash, .bool (tAt W.L k).fin, fs k, .string (tAt W.L k).B]] w' fun e w'' => e = .returned (.bool (isClsB (tAt W.L k))) ∧ Ext w' w'' := HIk
          have C7 := Lib.hid (fun w' (e : Ext w w') => And.intro ((e.below.cell (p := ⟨b, off + k * 6, none⟩) hb).trans d0) (And.intro ((e.below.cell (p := ⟨b, off + k * 6 + 1, none⟩) hb).trans d1) (And.intro ((e.below.cell (p := ⟨b, off + k * 6 + 2, none⟩) hb).trans d2) (And.intro ((e.below.cell (p := ⟨b, off + k * 6 + 3, none⟩) hb).trans d3) (And.intro ((e.below.cell (p := ⟨b, off + k * 6 + 4, none⟩) hb).trans d4) ((e.below.cell (p := ⟨b, off + k * 6 + 5, none⟩) hb).trans d5))))))
          have HC := Lib.hid (fun (w' : World) (e : Ext w w') (B : Box w' w.heap.size W ⟨.slice (some ⟨b, off, none⟩) n cL, fs, vD, vRe, vWa, vDu, vSn⟩) => containsV (VT.out.ext e) 85 (fun _ _ => by kernel_rfl) (.pointer (some ⟨w.heap.size, 0, none⟩)) (fun j => !(!(vAt t.F j).obj || liveB W (vAt t.F j).n)) (fun i hi w'' e' => thing1 ((HH.out.ext e).ext e') HD.out (B.ext e') (vAt t.F i)))
          have EL : Hid (allTo (fun j => !!(!(vAt t.F j).obj || liveB W (vAt t.F j).n)) t.F.length = liveF W t.F) := Lib.hid (by unfold liveF; simp only [Bool.not_not])
          clear d0 d1 d2 d3 d4 d5 vk
          cases hic : isClsB (tAt W.L k) with
          | false =>
            rw [hic] at E
            simp only [hic] at HIk
            generalize tAt W.L k = tk at *
            replace HIk := Lib.hid HIk
            go_enter Tryz.func51, Tryz.ntmps51
            go_wp2_with fail
            refine calls_name (fun W0 hW => ?_)
            have BT := Blk.new' hW
            have BW : Blk W0 w.heap.size _ _ := (Blk.new w _ _).alloc' hW
            have X0 := ((Ext.refl w).alloc _).alloc' hW
            simp only [World.size_alloc] at BT
            clear hW
            refine (HS.out _ X0).mono ?_
            rintro e w1 ⟨rfl, x1⟩
            obtain ⟨r1, r2, r3⟩ := (BW.ext x1).rules
            have BT1 := Lib.hid (BT.ext x1)
            have BW1 := Lib.hid (BW.ext x1)
            have X1 := Lib.hid (X0.trans x1)
            clear x1 X0 BT BW
            go_wp2_with fail
            refine (HLi.out _ X1.out).mono ?_
            rintro e w2 ⟨rfl, x2⟩
            clear r1 r2 r3
            obtain ⟨r1, r2, r3⟩ := (BW1.out.ext x2).rules
            obtain ⟨s1, s2, s3⟩ := (BT1.out.ext x2).rules
            have BT2 := Lib.hid (BT1.out.ext x2)
            have BW2 := Lib.hid (BW1.out.ext x2)
            have X2 := Lib.hid (X1.out.trans x2)
            clear x2 BT1 BW1 X1
            go_wp2_with fail
            refine (HLk.out _ X2.out).mono ?_
            rintro e w3 ⟨rfl, x3⟩
            clear r1 r2 r3 s1 s2 s3
            obtain ⟨r1, r2, r3⟩ := (BW2.out.ext x3).rules
            obtain ⟨s1, s2, s3⟩ := (BT2.out.ext x3).rules
            have X3 := Lib.hid (X2.out.trans x3)
            obtain ⟨d0, d1, d2, d3, d4, d5⟩ := C7.out _ X3.out
            clear x3
            go_wp2_with fail
            refine (HIk.out _ X3.out).mono ?_
            rintro e w4 ⟨rfl, x4⟩
            go_wp2_with fail
            go_ret
            exact ⟨ret_bool (by rw [E.out]; rfl), X3.out.trans x4⟩
          | true =>
            rw [hic, Bool.true_and] at E
            simp only [hic] at HIk
            generalize tAt W.L k = tk at *
            replace HIk := Lib.hid HIk
            go_enter Tryz.func51, Tryz.ntmps51
            go_wp2_with fail
            refine calls_name (fun W0 hW => ?_)
            have BT := Blk.new' hW
            have BW : Blk W0 w.heap.size _ _ := (Blk.new w _ _).alloc' hW
            have X0 := ((Ext.refl w).alloc _).alloc' hW
            simp only [World.size_alloc] at BT
            clear hW
            refine (HS.out _ X0).mono ?_
            rintro e w1 ⟨rfl, x1⟩
            obtain ⟨r1, r2, r3⟩ := (BW.ext x1).rules
            have BT1 := Lib.hid (BT.ext x1)
            have BW1 := Lib.hid (BW.ext x1)
            have X1 := Lib.hid (X0.trans x1)
            clear x1 X0 BT BW
            go_wp2_with fail
            refine (HLi.out _ X1.out).mono ?_
            rintro e w2 ⟨rfl, x2⟩
            clear r1 r2 r3
            obtain ⟨r1, r2, r3⟩ := (BW1.out.ext x2).rules
            obtain ⟨s1, s2, s3⟩ := (BT1.out.ext x2).rules
            have BT2 := Lib.hid (BT1.out.ext x2)
            have BW2 := Lib.hid (BW1.out.ext x2)
            have X2 := Lib.hid (X1.out.trans x2)
            clear x2 BT1 BW1 X1
            go_wp2_with fail
            refine (HLk.out _ X2.out).mono ?_
            rintro e w3 ⟨rfl, x3⟩
            clear r1 r2 r3 s1 s2 s3
            obtain ⟨r1, r2, r3⟩ := (BW2.out.ext x3).rules
            obtain ⟨s1, s2, s3⟩ := (BT2.out.ext x3).rules
            have BT3 := Lib.hid (BT2.out.ext x3)
            have BW3 := Lib.hid (BW2.out.ext x3)
            have X3 := Lib.hid (X2.out.trans x3)
            obtain ⟨d0, d1, d2, d3, d4, d5⟩ := C7.out _ X3.out
            clear x3 BT2 BW2
            go_wp2_with fail
            refine (HIk.out _ X3.out).mono ?_
            rintro e w4 ⟨rfl, x4⟩
            clear r1 r2 r3 s1 s2 s3 d0 d1 d2 d3 d4 d5
            obtain ⟨s1, s2, s3⟩ := (BT3.out.ext x4).rules
            have X4 := Lib.hid (X3.out.trans x4)
            have BW4 := Lib.hid (BW3.out.ext x4)
            clear x4
            go_wp2_with fail
            refine (HC.out _ X4.out BW4.out).mono ?_
            rintro e w5 ⟨rfl, x5⟩
            rw [EL.out]
            go_wp2_with fail
            go_ret
            exact ⟨ret_bool (by rw [E.out]), X4.out.trans x5⟩
  · have E2 : Hid (thingB W i = false) := Lib.hid (by rw [E.out, decide_eq_false hc]; rfl)
    clear E
    by_cases h1 : t.cls < 0
    · go_enter Tryz.func51, Tryz.ntmps51
      go_wp2
      go_ret
      exact ⟨ret_bool (by rw [E2.out]), ((Ext.refl _).alloc _).alloc _⟩
    · have h2 : (n : Int) ≤ t.cls := by omega
      have h0 : 0 ≤ t.cls := by omega
      clear hc h1
      go_enter Tryz.func51, Tryz.ntmps51
      go_wp2
      go_ret
      exact ⟨ret_bool (by rw [E2.out]), ((Ext.refl _).alloc _).alloc _⟩
end
end Go.Proofs.YtjpalcejmloocaaGreat.World
