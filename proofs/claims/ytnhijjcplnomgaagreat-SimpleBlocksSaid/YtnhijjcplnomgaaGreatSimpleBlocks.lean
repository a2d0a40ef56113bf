/-
  The walk of the law SimpleBlocks.
-/
import Derived.Test.YtnhijjcplnomgaaGreatSimpleBlocks0
import Derived.Test.YtnhijjcplnomgaaGreatWord
import Derived.OpenShut
namespace Go.Proofs.YtnhijjcplnomgaaGreat.World
open Go.RowKit Go.Proofs.YtnhijjcplnomgaaGreat.Plain
set_option linter.unusedVariables false
attribute [local go_sem ↓] Go.wp_at_zero Go.wp_at_succ
set_option maxRecDepth 100000 in
set_option maxHeartbeats 1000000 in
theorem simpleBlocks (a0 a1 a2 : Int) (w0 : (Lit.int .i64 a0).wf = true) (w1 : (Lit.int .i64 a1).wf = true) (w2 : (Lit.int .i64 a2).wf = true) (w : World) :
    Calls Tryz.prog 6 #[.int .i64 a0, .int .i64 a1, .int .i64 a2] w fun e w' => e = .returned (.bool true) ∧ Below w.heap.size w w' := by
  obtain ⟨x1, x2⟩ := bounds_i64 w0
  obtain ⟨x3, x4⟩ := bounds_i64 w1
  obtain ⟨x5, x6⟩ := bounds_i64 w2
  clear w0 w1 w2
  obtain ⟨x, hx⟩ : ∃ k : Nat, a0 % 11 = (k : Int) := ⟨(a0 % 11).toNat, by omega⟩
  obtain ⟨y, hy⟩ : ∃ k : Nat, a1 % 11 = (k : Int) := ⟨(a1 % 11).toNat, by omega⟩
  obtain ⟨p, hp⟩ : ∃ k : Nat, a2 % 50 = (k : Int) := ⟨(a2 % 50).toNat, by omega⟩
  have xb1 : x < 11 := by omega
  have yb1 : y < 11 := by omega
  have pb1 : p < 50 := by omega
  have HX := Lib.hid hx
  have HY := Lib.hid hy
  have HP := Lib.hid hp
  have HF := Lib.hid (@first_ w)
  have HN := Lib.hid lnum
  unfold val num at HN
  clear hx hy hp
  go_enter Tryz.func6, Tryz.ntmps6
  go_wp2_with (go_at_call 13; refine (Word.place _ _ _ (by omega) (by omega) (by omega) (by omega)).mono ?_; rintro e w' ⟨rfl, rfl⟩)
  rw [HX.out, HY.out]
  refine HF.out.mono ?_
  clear HF
  rintro e w1 ⟨xw, rfl, b1, x1'⟩
  obtain ⟨vL, fs, vD, vRe, vWa, vDu, vSn⟩ := xw
  obtain ⟨y1, y2, y3, y4, y5⟩ := b1.bare
  simp only at y1 y2 y3 y4 y5
  subst y1 y2 y3 y4 y5
  obtain ⟨A, cp, hA⟩ := b1.L.form
  have hA : vL = .slice A 23 cp := hA
  subst hA
  unfold cellsW firstW regs0
  go_wp2_with fail
  refine calls_name (fun w2 hW => ?_)
  have xb : Ext w1 w2 := by rw [hW]; exact is_ext _ _
  have B2 : BAt w2 w.heap.size w1.heap.size firstW ⟨.slice A 23 cp, fs, .slice none 0 0, .slice none 0 0, .slice none 0 0, .slice none 0 0, .slice none 0 0⟩ := ⟨by rw [hW]; exact Blk.new _ _ _, b1.ext xb⟩
  have X2 := Lib.hid (x1'.trans xb)
  have BH := Lib.hid B2
  have s1 := x1'.below.size
  clear hW B2 b1 x1' xb
  generalize hb : w1.heap.size = b at *
  have CM := bmeth BH.out X2.out.below.size 0 0 0 (by decide) (by decide)
  rw [show ((firstW.L.length + 1 : Nat) : Int) = 24 from rfl] at CM
  refine CM.mono ?_
  clear CM
  rintro e w3 ⟨rfl, ⟨x3', h3⟩, k3⟩
  have X3 : Hid (Ext w w3) := Lib.hid (Ext.of_below (Keep.below X2.out.below k3 X2.out.below.size (fun i hi h => by omega)))
  have H3 := Lib.hid h3
  clear h3 k3 BH X2
  go_wp2_with fail
  refine (HN.out _ _).mono ?_
  rintro e w4 ⟨rfl, x4'⟩
  have X4 := Lib.hid (X3.out.trans x4')
  have CS := bstart (H3.out.ext x4') X4.out.below.size 24 0 5 (num 0) (by decide) (by decide)
  rw [show (((firstW.meth 0 0 0).L.length + 1 : Nat) : Int) = 26 from rfl, show (((firstW.meth 0 0 0).L.length : Nat) : Int) = 25 from rfl] at CS
  replace CS := Lib.hid CS
  unfold val num at CS
  clear x4' H3 X3
  go_wp2_with fail
  refine CS.out.mono ?_
  rintro e w5 ⟨rfl, ⟨x5', h5⟩, k5⟩
  have X5 : Hid (Ext w w5) := Lib.hid (Ext.of_below (Keep.below X4.out.below k5 X4.out.below.size (fun i hi h => by omega)))
  have h5 : BAt w5 w.heap.size b blocksW x5' := h5
  obtain ⟨p1, p2, p3⟩ := h5.blk.rules
  have CN := Lib.hid (objnew (W := blocksW) (h5.bu.at_ (nums_of_check blocksW_check)) blocksW_check rfl 5)
  have S0 := Lib.hid sb0
  unfold cellsW at p1
  unfold cellsW at CN
  clear h5 k5 CS X4
  generalize blocksW = W0 at *
  go_wp2_with fail
  refine CN.out.mono ?_
  rintro e w6 ⟨m, F, rfl, m6, hF, x6'⟩
  have X6 := Lib.hid (X5.out.trans x6')
  have FL : Hid (∀ k, F k → w.heap.size ≤ k) := Lib.hid (fun k hk => by have := hF k hk; have := X5.out.below.size; omega)
  have M6 := Lib.hid m6
  clear hF m6 x6' CN p1 p2 p3 X5
  generalize newS W0 5 = S at *
  obtain ⟨gok, gsb⟩ := S0.out.go (q := (p : Int)) (by omega)
  have D13 := sdo13 M6.out (by rw [S0.out.std.ph]; decide) S0.out.fr.is (p : Int) (by omega)
  rw [gok] at D13
  replace D13 := Lib.hid D13
  have SB1 := Lib.hid gsb
  clear gok gsb S0
  generalize S.goTo 25 p = S1 at *
  go_wp2_with (go_at_call 13; refine (Word.place _ _ _ (by omega) (by omega) (by omega) (by omega)).mono ?_; rintro e w' ⟨rfl, rfl⟩)
  rw [HP.out]
  refine D13.out.mono ?_
  rintro e w7 ⟨rfl, m7, k7⟩
  have X7 : Hid (Ext w w7) := Lib.hid (Ext.of_below (Keep.below X6.out.below k7 X6.out.below.size (fun i hi h => by have := FL.out i h; omega)))
  have M7 := Lib.hid m7
  have AW := Lib.hid awake15
  clear m7 k7 D13 M6 X6
  by_cases hin : x ≤ y ∧ y ≤ 8
  · obtain ⟨hxy, hy8⟩ := hin
    have d1 : decide ((x : Int) ≤ (y : Int)) = true := decide_eq_true (by omega)
    have d2 : decide ((y : Int) ≤ 8) = true := decide_eq_true (by omega)
    have hl := SB1.out.last
    have hlen : (S1.L.length : Int) = 27 := by rw [SB1.out.len]; rfl
    have D18 := sdo18 M7.out SB1.out.std hl SB1.out.fr.is SB1.out.pc (by omega) (a := x) (t := y) (by omega)
    rw [hlen] at D18
    obtain ⟨pok, R⟩ := SB1.out.block (f := MS.clV 25 x y ((p : Int) + 1)) (SB1.out.may (by omega))
    rw [pok] at D18
    replace D18 := Lib.hid D18
    have RH := Lib.hid R
    clear pok R hl hlen M7
    generalize (S1.clS (MS.clV 25 x y ((p : Int) + 1)) 4).push 25 (objV 27) = P at *
    go_wp2_with fail
    refine D18.out.mono ?_
    rintro e w8 ⟨rfl, F8, m8, v8⟩
    have X8 : Hid (Ext w w8) := Lib.hid (Ext.of_below (Keep.below X7.out.below v8.keep X7.out.below.size (fun i hi h => by have := FL.out i h; omega)))
    have C6 := Lib.hid (fun W [x : IsExt w8 W] => mget (m8.ext x.out) 25 6)
    have C2 := Lib.hid (fun W [x : IsExt w8 W] => mget (m8.ext x.out) 25 2)
    have CT := Lib.hid (fun W [x : IsExt w8 W] => mthingF (m8.ext x.out) 27 RH.out.has RH.out.fmt)
    rw [RH.out.g6] at C6
    rw [RH.out.g2] at C2
    have i8 : IsExt w8 w8 := ⟨Ext.refl _⟩
    unfold val num at C2
    unfold val objV at C6
    clear m8 v8 D18 X7
    go_wp2_with fail
    refine (C6.out _).mono ?_
    rintro e w9 ⟨rfl, x9⟩
    have i9 : IsExt w8 w9 := ⟨x9⟩
    clear x9 C6 i8
    go_wp2_with fail
    refine (CT.out w9).mono ?_
    rintro e w10 ⟨vF, rfl, ow, x10⟩
    have hfl := RH.out.len
    have hcl := RH.out.cls
    have hfd := RH.out.fld
    unfold tcells
    rw [hcl]
    rw [hfl] at ow
    obtain ⟨gF, cF', rfl, hgF, hc⟩ := own4 ow
    have X10 := Lib.hid (X8.out.trans (i9.out.trans x10))
    have i10 : IsExt w8 w10 := ⟨i9.out.trans x10⟩
    have v0 := hfd 0 (by omega)
    have v1 := hfd 1 (by omega)
    have v2 := hfd 2 (by omega)
    have v3 := hfd 3 (by omega)
    obtain ⟨c00, c01⟩ := hc 0 (by omega)
    obtain ⟨c10, c11⟩ := hc 1 (by omega)
    obtain ⟨c20, c21⟩ := hc 2 (by omega)
    obtain ⟨c30, c31⟩ := hc 3 (by omega)
    rw [v0] at c00 c01
    rw [v1] at c10 c11
    rw [v2] at c20 c21
    rw [v3] at c30 c31
    replace c00 : w10.cell? ⟨gF, 0, none⟩ = some (.bool true) := c00
    replace c01 : w10.cell? ⟨gF, 1, none⟩ = some (.int .i64 25) := c01
    replace c11 : w10.cell? ⟨gF, 3, none⟩ = some (.int .i64 x) := c11
    replace c21 : w10.cell? ⟨gF, 5, none⟩ = some (.int .i64 y) := c21
    replace c31 : w10.cell? ⟨gF, 7, none⟩ = some (.int .i64 ((p : Int) + 1)) := c31
    generalize (P.t 27).fmt = tf at *
    generalize (P.t 27).hash = th at *
    generalize (P.t 27).fin = tn at *
    clear ow hc v0 v1 v2 v3 c10 c20 c30 hfl hcl hfd x10 i9 CT X8
    go_wp2_with fail
    refine (C2.out _).mono ?_
    rintro e w11 ⟨rfl, x11⟩
    have X11 := Lib.hid ((X10.out.alloc _).trans x11)
    clear x11 C2 i10 X10
    go_wp2_with fail
    refine (AW.out _).mono ?_
    rintro e w12 ⟨rfl, x12⟩
    go_wp2_with fail
    go_ret
    exact ⟨rfl, (X11.out.trans x12).below⟩
  · have D18 := Lib.hid (fun W [ix : IsExt w7 W] => sdo18_no (m := m) (M7.out.ext ix.out) SB1.out.std SB1.out.fr.is (a := (x : Int)) (t := y) (by omega) (fun h => hin (by omega)))
    have C2 := Lib.hid (fun W [x : IsExt w7 W] => mget (M7.out.ext x.out) 25 2)
    rw [SB1.out.sp] at C2
    unfold val num at C2
    have i7 : IsExt w7 w7 := ⟨Ext.refl _⟩
    have hno : x ≤ y → ¬ y ≤ 8 := fun a b => hin ⟨a, b⟩
    by_cases hxy : x ≤ y
    · have hy8 := hno hxy
      have d1 : decide ((x : Int) ≤ (y : Int)) = true := decide_eq_true (by omega)
      have d2 : decide ((y : Int) ≤ 8) = false := decide_eq_false (by omega)
      clear hin hno M7 SB1 FL
      go_wp2_with fail
      refine (D18.out _).mono ?_
      rintro e w8 ⟨rfl, x8⟩
      have i8 : IsExt w7 w8 := ⟨x8⟩
      clear x8 D18 i7
      go_wp2_with fail
      refine (C2.out _).mono ?_
      rintro e w9 ⟨rfl, x9⟩
      have X9 := Lib.hid (X7.out.trans (i8.out.trans x9))
      clear x9 C2 i8 X7
      go_wp2_with fail
      refine (AW.out _).mono ?_
      rintro e w12 ⟨rfl, x12⟩
      go_wp2_with fail
      go_ret
      exact ⟨rfl, (X9.out.trans x12).below⟩
    · have d1 : decide ((x : Int) ≤ (y : Int)) = false := decide_eq_false (by omega)
      clear hin hno M7 SB1 FL
      go_wp2_with fail
      refine (D18.out _).mono ?_
      rintro e w8 ⟨rfl, x8⟩
      have i8 : IsExt w7 w8 := ⟨x8⟩
      clear x8 D18 i7
      go_wp2_with fail
      refine (C2.out _).mono ?_
      rintro e w9 ⟨rfl, x9⟩
      have X9 := Lib.hid (X7.out.trans (i8.out.trans x9))
      clear x9 C2 i8 X7
      go_wp2_with fail
      refine (AW.out _).mono ?_
      rintro e w12 ⟨rfl, x12⟩
      go_wp2_with fail
      go_ret
      exact ⟨rfl, (X9.out.trans x12).below⟩
end Go.Proofs.YtnhijjcplnomgaaGreat.World
