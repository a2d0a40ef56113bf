/-
  The walk of the law SimpleFields.
-/
import Derived.Test.YtnhijjcplnomgaaGreatSimpleFields0
import Derived.Test.YtnhijjcplnomgaaGreatWord
import Derived.Test.YtnhijjcplnomgaaGreatStartK
import Derived.OpenShut
namespace Go.Proofs.YtnhijjcplnomgaaGreat.World
open Go.RowKit Go.Proofs.YtnhijjcplnomgaaGreat.Plain
set_option linter.unusedVariables false
attribute [local go_sem ↓] Go.wp_at_zero Go.wp_at_succ
theorem flat_rep (k : Nat) : flat k 2 (cF (List.replicate k (num 0))) = (List.range (k * 2)).map (fun q => if q % 2 = 0 then Value.bool false else Value.int .i64 0) := by
  unfold flat
  refine List.map_congr_left fun q hq => ?_
  have hq := List.mem_range.1 hq
  have h : q / 2 < k := Nat.div_lt_of_lt_mul (by omega)
  have e : vAt (List.replicate k (num 0)) (q / 2) = num 0 := by unfold vAt; rw [List.getD_eq_getElem?_getD, List.getElem?_replicate, if_pos h]; rfl
  show cV (vAt _ _) _ = _
  rw [e]
  rcases Nat.mod_two_eq_zero_or_one q with h | h
  · rw [h, if_pos rfl]; rfl
  · rw [h, if_neg (by omega)]; rfl
theorem make_val (k : Nat) (hk : k ≤ 1000000) (w : World) : (Instr.makeSlice 42 (.int .i64 (k : Int)) (.int .i64 (k : Int))).run Tryz.prog w = .ok (.slice (some ⟨w.heap.size, 0, none⟩) k k) (w.alloc (.cells (flat k 2 (cF (List.replicate k (num 0)))).toArray 40)) := by
  obtain ⟨i0, hi, hz0, hz1, hz2⟩ := info_parts infoV
  have h := run_make (P := Tryz.prog) w 42 40 i0 (.agg #[.bool false, .int .i64 0]) Tryz.underlying42 hi hz0 .i64 .i64 (k : Int) (k : Int) (by omega) (by omega) (by rw [hz2]; omega) (by omega)
  rw [h]
  have e : madeCells (Value.cells (.agg #[.bool false, .int .i64 0])) ((k : Int).toNat * i0.size) = (flat k 2 (cF (List.replicate k (num 0)))).toArray := by
    rw [hz1, Int.toNat_natCast, flat_rep]
    apply Array.ext
    · simp [madeCells]
    · intro j h1 h2
      simp [madeCells, Value.cells]
      rcases Nat.mod_two_eq_zero_or_one j with h | h
      · rw [h]; rfl
      · rw [h]; rfl
  rw [e, Int.toNat_natCast]
theorem idx_who (c : Nat) (hc : c < 3) (W : World) : (Instr.index 56 (.agg #[.bool true, .int .i64 23, .bool false, .int .i64 5, .bool true, .int .i64 22]) (.int .i64 (c : Int))).run Tryz.prog W = .ok (.agg #[.bool (whoV c).obj, .int .i64 (whoV c).n]) W := by
  rcases (show c = 0 ∨ c = 1 ∨ c = 2 by omega) with rfl | rfl | rfl
  · kernel_rfl
  · kernel_rfl
  · kernel_rfl
set_option maxRecDepth 100000 in
set_option maxHeartbeats 1000000 in
theorem simpleFields (a0 a1 a2 a3 : Int) (w0 : (Lit.int .i64 a0).wf = true) (w1 : (Lit.int .i64 a1).wf = true) (w2 : (Lit.int .i64 a2).wf = true) (w3 : (Lit.int .i64 a3).wf = true) (w : World) :
    Calls Tryz.prog 4 #[.int .i64 a0, .int .i64 a1, .int .i64 a2, .int .i64 a3] w fun e w' => e = .returned (.bool true) ∧ Below w.heap.size w w' := by
  obtain ⟨x1, x2⟩ := bounds_i64 w0
  obtain ⟨x3, x4⟩ := bounds_i64 w1
  obtain ⟨x5, x6⟩ := bounds_i64 w2
  obtain ⟨x7, x8⟩ := bounds_i64 w3
  clear w0 w1 w2 w3
  obtain ⟨k, hk⟩ : ∃ k : Nat, a0 % 20 = (k : Int) := ⟨(a0 % 20).toNat, by omega⟩
  obtain ⟨i, hi⟩ : ∃ k : Nat, a1 % 25 = (k : Int) := ⟨(a1 % 25).toNat, by omega⟩
  obtain ⟨x, hx⟩ : ∃ k : Nat, a2 % 256 = (k : Int) := ⟨(a2 % 256).toNat, by omega⟩
  obtain ⟨c, hc⟩ : ∃ k : Nat, a3 % 3 = (k : Int) := ⟨(a3 % 3).toNat, by omega⟩
  have k1 : k < 20 := by omega
  have i1 : i < 25 := by omega
  have v1 : x < 256 := by omega
  have c1 : c < 3 := by omega
  have HK := Lib.hid hk
  have HI := Lib.hid hi
  have HX := Lib.hid hx
  have HC := Lib.hid hc
  have HF := Lib.hid (@first_ w)
  have HN := Lib.hid lnum
  have HO := Lib.hid lobj
  unfold val num at HN
  unfold val objV at HO
  clear hk hi hx hc
  go_enter Tryz.func4, Tryz.ntmps4
  go_wp2_with fail
  refine HF.out.mono ?_
  clear HF
  rintro e w1 ⟨xw, rfl, b1, x1'⟩
  obtain ⟨vL, fs, vD, vRe, vWa, vDu, vSn⟩ := xw
  obtain ⟨y1, y2, y3, y4, y5⟩ := b1.bare
  simp only at y1 y2 y3 y4 y5
  subst y1 y2 y3 y4 y5
  obtain ⟨A, cp, hA⟩ := b1.L.form
  have hA : vL = .slice A 23 cp := hA
  subst hA
  unfold cellsW firstW regs0
  go_upto_region 4 with (go_at_call 13; refine (Word.place _ _ _ (by omega) (by omega) (by omega) (by omega)).mono ?_; rintro e w' ⟨rfl, rfl⟩)
  rw [HK.out]
  refine wp_name (fun w2 hW => ?_)
  have xb : Ext w1 w2 := by rw [hW]; exact is_ext _ _
  have B2 : BAt w2 w.heap.size w1.heap.size firstW ⟨.slice A 23 cp, fs, .slice none 0 0, .slice none 0 0, .slice none 0 0, .slice none 0 0, .slice none 0 0⟩ := ⟨by rw [hW]; exact Blk.new _ _ _, b1.ext xb⟩
  have X2 := Lib.hid (x1'.trans xb)
  have BH := Lib.hid B2
  have s1 := x1'.below.size
  clear hW B2 b1 x1' xb
  generalize hb : w1.heap.size = b at *
  have MK := make_val k (by omega)
  go_wp2_with fail
  refine wp_name_calls (fun w3 hW => ?_)
  have x3' : Ext w2 w3 := by rw [hW]; exact is_ext _ _
  have b3 : Blk w3 w2.heap.size 40 (flat k 2 (cF (List.replicate k (num 0)))).toArray := by rw [hW]; exact Blk.new _ _ _
  have X3 := Lib.hid (X2.out.trans x3')
  have B3 := Lib.hid (BH.out.ext x3')
  have vv : ValsAt w3 (.slice (some ⟨w2.heap.size, 0, none⟩) k k) (List.replicate k (num 0)) := by
    show Row w3 _ (List.replicate k (num 0)).length 2 _
    rw [List.length_replicate]; exact row_flat (n := k) b3 (by omega)
  have D := badd (F := List.replicate k (num 0)) B3.out X3.out.below.size vv (typ_blk b3) 7 1 ByteArray.empty (by decide) (by decide)
  have DH := Lib.hid D
  clear hW b3 D x3' X2 BH MK vv
  generalize w2.heap.size = g2 at *
  refine DH.out.mono ?_
  rintro e wA ⟨rfl, vA, bA, kA⟩
  have XA : Hid (Ext w wA) := Lib.hid (Ext.of_below (Keep.below X3.out.below kA X3.out.below.size (fun i hi h => by
    rcases h with h | h
    · omega
    · have := (B3.out.bu.L.block h).1; omega)))
  have BA : Hid (BAt wA w.heap.size b (firstW.add 7 1 (List.replicate k (num 0)) ByteArray.empty) vA) := Lib.hid bA
  clear bA kA DH X3 B3
  rw [show ((firstW.L.length : Nat) : Int) = 23 from rfl]
  have iA : IsExt wA wA := ⟨Ext.refl _⟩
  have IDX := idx_who c c1
  go_wp2_with fail
  refine (HO.out _ _).mono ?_
  rintro e wB ⟨rfl, xB⟩
  have iB : IsExt wA wB := ⟨xB⟩
  clear xB iA
  go_wp2_with fail
  refine (HN.out _ _).mono ?_
  rintro e wC ⟨rfl, xC⟩
  have iC : IsExt wA wC := ⟨iB.out.trans xC⟩
  clear xC iB
  go_wp2_with fail
  refine (HO.out _ _).mono ?_
  rintro e wD ⟨rfl, xD⟩
  have iD : IsExt wA wD := ⟨iC.out.trans xD⟩
  clear xD iC
  go_wp2_with (go_at_call 13; refine (Word.place _ _ _ (by omega) (by omega) (by omega) (by omega)).mono ?_; rintro e w' ⟨rfl, rfl⟩; rw [HC.out])
  refine wp_name (fun wE hE => ?_)
  have xE : Ext wD wE := by rw [hE]; exact is_ext _ _
  have bx : Blk wE wD.heap.size 40 #[.bool (whoV c).obj, .int .i64 (whoV c).n] := by rw [hE]; exact Blk.new _ _ _
  have xAE : Ext wA wE := iD.out.trans xE
  have BX := Lib.hid bx
  have XE := Lib.hid (XA.out.trans xAE)
  have BE := Lib.hid (BA.out.ext xAE)
  clear hE xE bx xAE iD XA BA IDX
  generalize wD.heap.size = gx at *
  obtain ⟨wo, hwo⟩ : ∃ o, (whoV c).obj = o := ⟨_, rfl⟩
  obtain ⟨wn, hwn⟩ : ∃ o, (whoV c).n = o := ⟨_, rfl⟩
  have HWO := Lib.hid hwo
  have HWN := Lib.hid hwn
  rw [hwo, hwn] at BX
  clear hwo hwn
  have len24 : (firstW.add 7 1 (List.replicate k (num 0)) ByteArray.empty).L.length = 24 := by rw [len_add]; rfl
  have CM : Hid (∀ W [x : IsExt wE W], Calls Tryz.prog 22 #[.pointer (some ⟨b, 0, none⟩), .int .i64 0, .int .i64 0, .int .i64 0, .slice none 0 0, .slice none 0 0] W fun e w' => e = .returned (.int .i64 25) ∧ (∃ x', BAt w' w.heap.size b ((firstW.add 7 1 (List.replicate k (num 0)) ByteArray.empty).meth 0 0 0) x') ∧ Ext w w' ∧ Blk w' gx 40 #[.bool wo, .int .i64 wn]) := Lib.hid (fun W x => by
    have xw : Ext w W := XE.out.trans x.out
    have q := bmethK (BE.out.ext x.out) xw.below.size 0 0 0 (by rw [len24]; omega) (by show _ ≤ firstW.last + 1 ∧ firstW.last + 1 ≤ _; decide)
    rw [len24] at q
    exact q.mono (fun e w' ⟨he, hb, hk, ho⟩ => ⟨he, hb, Ext.of_below (Keep.below xw.below hk xw.below.size (fun i hi h => by omega)), ho _ _ _ (by decide) (by decide) (BX.out.ext x.out)⟩))
  obtain ⟨u1, u2, u3⟩ := BX.out.rules
  have iE : IsExt wE wE := ⟨Ext.refl _⟩
  have len26 : ((firstW.add 7 1 (List.replicate k (num 0)) ByteArray.empty).meth 0 0 0).L.length = 26 := by unfold PW.meth; rw [len_add, len_add, len24]
  have ST : ∀ w7 v7, BAt w7 w.heap.size b ((firstW.add 7 1 (List.replicate k (num 0)) ByteArray.empty).meth 0 0 0) v7 → Ext w w7 → Blk w7 gx 40 #[.bool wo, .int .i64 wn] → Hid (∀ W [x : IsExt w7 W], Calls Tryz.prog 17 #[.pointer (some ⟨b, 0, none⟩), .int .i64 25, .int .i64 0, .agg #[.bool wo, .int .i64 wn], .int .i64 5] W fun e w' => e = .returned (.tuple #[.int .i64 27, .int .i64 26]) ∧ (∃ x', BAt w' w.heap.size b (fieldsW c k) x') ∧ Ext w w' ∧ Blk w' gx 40 #[.bool wo, .int .i64 wn]) := fun w7 v7 h7 x7 b7 => Lib.hid (fun W x => by
    have xw : Ext w W := x7.trans x.out
    have q := bstartK (h7.ext x.out) xw.below.size 25 0 5 (whoV c) (by rw [len26]; omega) (by show _ ≤ firstW.last + 1 + 1 + 1 ∧ firstW.last + 1 + 1 + 1 ≤ _; decide)
    unfold val at q
    rw [HWO.out, HWN.out, len26] at q
    exact q.mono (fun e w' ⟨he, hb, hk, ho⟩ => ⟨he, hb, Ext.of_below (Keep.below xw.below hk xw.below.size (fun i hi h => by omega)), ho _ _ _ (by decide) (by decide) (b7.ext x.out)⟩))
  go_region_held3 (fun w' => w'.cell? ⟨gx, 0, none⟩ = some (.bool wo) ∧ w'.cell? ⟨gx, 1, none⟩ = some (.int .i64 wn)) (first | go_keep) ((first | (go_at_call 22; refine (CM.out _).mono ?_; rintro e w7 ⟨rfl, ⟨v7, h7⟩, x7, b7⟩; obtain ⟨u1, u2, u3⟩ := b7.rules; have CS := ST w7 v7 h7 x7 b7) | (go_at_call 17; refine (CS.out _).mono ?_; rintro e w8 ⟨rfl, ⟨v8, h8⟩, x8, b8⟩; obtain ⟨u1, u2, u3⟩ := b8.rules)))
  have ck := fieldsW_check c k c1 k1
  have S0 := Lib.hid (sf0 c k c1 k1)
  have CN := Lib.hid (objnew (W := fieldsW c k) (h8.bu.at_ (nums_of_check ck)) ck rfl 5)
  obtain ⟨p1, p2, p3⟩ := h8.blk.rules
  have X8 := Lib.hid x8
  unfold cellsW at p1
  unfold cellsW at CN
  clear h8 x8 b8 ck CS ST CM h7 x7 b7 u1 u2 u3 BX XE BE len24 len26 iE HWO HWN
  generalize fieldsW c k = W0 at *
  go_wp2_with fail
  refine CN.out.mono ?_
  rintro e w9 ⟨m, F, rfl, m9, hF, x9'⟩
  have X9 := Lib.hid (X8.out.trans x9')
  have FL : Hid (∀ k, F k → w.heap.size ≤ k) := Lib.hid (fun k hk => by have := hF k hk; have := X8.out.below.size; omega)
  have M9 := Lib.hid m9
  clear hF m9 x9' CN p1 p2 p3 X8
  generalize newS W0 5 = S at *
  go_upto_region 11 with (go_at_call 13; refine (Word.place _ _ _ (by omega) (by omega) (by omega) (by omega)).mono ?_; rintro e w' ⟨rfl, rfl⟩)
  rw [HI.out, HX.out]
  have R := sf_all S0.out c1 i (x := (x : Int) - 128) (by omega)
  have D9 := sdo9 M9.out S0.out.ph R.a2 (x : Int) 0 (by omega)
  rw [R.a1] at D9
  have Rb1 := Lib.hid R.b1
  have Rb2 := Lib.hid R.b2
  have Rb3 := Lib.hid R.b3
  have Rb4 := Lib.hid R.b4
  have Rc1 := Lib.hid R.c1
  have Rc2 := Lib.hid R.c2
  have Rc3 := Lib.hid R.c3
  have G22 := Lib.hid R.d1
  have GIN := Lib.hid R.d2
  clear R
  replace D9 := Lib.hid D9
  clear S0
  generalize S.push 26 (num ((x : Int) - 128)) = S1 at *
  go_wp2_with fail
  refine D9.out.mono ?_
  rintro e wa ⟨rfl, ma, ka⟩
  have D6 := sdo6 ma Rb1.out Rb2.out Rb3.out (i : Int) 0
  rw [Rb4.out] at D6
  obtain ⟨inB, hinB⟩ : ∃ q, decide (c = 0 ∧ i < k) = q := ⟨_, rfl⟩
  rw [hinB] at D6
  replace D6 := Lib.hid D6
  have Xa : Hid (Ext w wa) := Lib.hid (Ext.of_below (Keep.below X9.out.below ka X9.out.below.size (fun i hi h => by have := FL.out i h; omega)))
  have IB := Lib.hid hinB
  clear ma ka D9 M9 X9 hinB
  generalize S1.sf 26 i = S2 at *
  go_wp2_with fail
  refine D6.out.mono ?_
  rintro e wb ⟨rfl, mb, kb⟩
  have D4 := sdo4 mb Rc1.out Rc2.out (i : Int) 0
  rw [Rc3.out, IB.out] at D4
  obtain ⟨isB, hisB⟩ : ∃ q, (inB || decide (c = 2 ∧ i = 0)) = q := ⟨_, rfl⟩
  rw [hisB] at D4
  replace D4 := Lib.hid D4
  have Xb : Hid (Ext w wb) := Lib.hid (Ext.of_below (Keep.below Xa.out.below kb Xa.out.below.size (fun i hi h => by have := FL.out i h; omega)))
  have SB := Lib.hid hisB
  clear mb kb D6 Xa hisB
  generalize S2.pf 26 i = S3 at *
  go_wp2_with fail
  refine D4.out.mono ?_
  rintro e wc ⟨rfl, mc, kc⟩
  have Xc : Hid (Ext w wc) := Lib.hid (Ext.of_below (Keep.below Xb.out.below kc Xb.out.below.size (fun i hi h => by have := FL.out i h; omega)))
  have MC := Lib.hid mc
  clear mc kc D4 Xb FL Rb1 Rb2 Rb3 Rb4 Rc1 Rc2 Rc3
  go_upto_region 15 with (fail)
  have AW := Lib.hid awake15
  have ic : IsExt wc wc := ⟨Ext.refl _⟩
  rcases (show (c = 0 ∧ i < k) ∨ (c = 0 ∧ ¬ i < k) ∨ c = 1 ∨ (c = 2 ∧ i = 0) ∨ (c = 2 ∧ ¬ i = 0) by omega) with ⟨rfl, hik⟩ | ⟨rfl, hik⟩ | rfl | ⟨rfl, rfl⟩ | ⟨rfl, hi0⟩
  · obtain ⟨gf, g6⟩ := GIN.out ⟨rfl, hik⟩
    have hb : inB = true := by rw [← IB.out]; exact decide_eq_true ⟨rfl, hik⟩
    subst hb
    have hs : isB = true := by rw [← SB.out]; rfl
    subst hs
    have HC0 : Hid (a3 % 3 = 0) := HC
    have d1 : decide ((i : Int) < (k : Int)) = true := decide_eq_true (by omega)
    have C6 := Lib.hid (fun W [x : IsExt wc W] => mget (MC.out.ext x.out) 26 6)
    rw [g6] at C6
    unfold val num at C6
    have C23 : Hid (∀ W [ix : IsExt wc W] (j : Nat), j < k → Calls Tryz.prog 24 #[.pointer (some ⟨m, 0, none⟩), .int .i64 23, .int .i64 j] W fun e w' => e = .returned (.agg #[.bool false, .int .i64 (if j = i then (x : Int) - 128 else 0)]) ∧ Ext W w') := Lib.hid (fun W ix j hj => by
      have q := mget (MC.out.ext ix.out) 23 j
      rw [gf j hj] at q
      unfold val num at q
      by_cases hji : j = i
      · rw [if_pos hji] at q ⊢; exact q
      · rw [if_neg hji] at q ⊢; exact q)
    clear G22 GIN MC IB SB HC gf g6
    replace HC := HC0
    clear HC0
    go_wp2_with (go_at_call 13; refine (Word.place _ _ _ (by omega) (by omega) (by omega) (by omega)).mono ?_; rintro e w' ⟨rfl, rfl⟩; rw [HC.out])
    go_loopw [21] (fun jv wr => ∃ j : Nat, j ≤ k ∧ jv = .int .i64 j ∧ Ext wc wr) (fun jv _ => k - (intOf jv).toNat)
    case atStart => exact ⟨0, by omega, rfl, Ext.refl _⟩
    case round =>
      obtain ⟨j, hj, rfl, xr⟩ := hrel
      have ir : IsExt wc wr := ⟨xr⟩
      clear xr ic
      by_cases hlt : j < k
      · have jI : (j : Int) < (k : Int) := by omega
        have CJ := C23.out wr j hlt
        by_cases hji : j = i
        · subst hji
          rw [if_pos rfl] at CJ
          replace CJ := Lib.hid CJ
          go_wp2_with fail
          refine CJ.out.mono ?_
          rintro e wd ⟨rfl, xd⟩
          have id' : IsExt wc wd := ⟨ir.out.trans xd⟩
          clear xd CJ ir
          go_wp2_with fail
          go_roundw
          case rel => exact ⟨j + 1, by omega, by go_num, id'.out.alloc _⟩
          case measure => simp [intOf]; omega
        · rw [if_neg hji] at CJ
          replace CJ := Lib.hid CJ
          have hji' : ((j : Int) == (i : Int)) = false := beq_eq_false_iff_ne.2 (by omega)
          have hji2 : ¬ (j : Int) = (i : Int) := by omega
          go_wp2_with fail
          refine CJ.out.mono ?_
          rintro e wd ⟨rfl, xd⟩
          have id' : IsExt wc wd := ⟨ir.out.trans xd⟩
          clear xd CJ ir
          go_wp2_with fail
          go_roundw
          case rel => exact ⟨j + 1, by omega, by go_num, id'.out.alloc _⟩
          case measure => simp [intOf]; omega
      · obtain rfl : k = j := by omega
        go_wp2_with fail
        refine (C6.out _).mono ?_
        rintro e wd ⟨rfl, xd⟩
        have Xd := Lib.hid ((Xc.out.trans ir.out).trans xd)
        clear xd C6 Xc ir
        go_wp2_with fail
        refine (AW.out _).mono ?_
        rintro e we ⟨rfl, xe⟩
        go_wp2_with fail
        go_ret
        exact ⟨rfl, (Xd.out.trans xe).below⟩
  · have CG := Lib.hid (fun W [x : IsExt wc W] => mget (MC.out.ext x.out) 22 0)
    rw [G22.out] at CG
    unfold val num at CG
    have hb : inB = false := by rw [← IB.out]; exact decide_eq_false (fun h => hik h.2)
    subst hb
    have hs : isB = false := by rw [← SB.out]; rfl
    subst hs
    have HC0 : Hid (a3 % 3 = 0) := HC
    have d1 : decide ((i : Int) < (k : Int)) = false := decide_eq_false (by omega)
    clear G22 GIN MC IB SB HC
    replace HC := HC0
    clear HC0
    go_wp2_with (go_at_call 13; refine (Word.place _ _ _ (by omega) (by omega) (by omega) (by omega)).mono ?_; rintro e w' ⟨rfl, rfl⟩; rw [HC.out])
    refine (CG.out _).mono ?_
    rintro e wd ⟨rfl, xd⟩
    have Xd := Lib.hid (Xc.out.trans xd)
    clear xd CG Xc
    go_wp2_with fail
    refine (AW.out _).mono ?_
    rintro e we ⟨rfl, xe⟩
    go_wp2_with fail
    go_ret
    exact ⟨rfl, (Xd.out.trans xe).below⟩
  · have CG := Lib.hid (fun W [x : IsExt wc W] => mget (MC.out.ext x.out) 22 0)
    rw [G22.out] at CG
    unfold val num at CG
    have hb : inB = false := by rw [← IB.out]; exact decide_eq_false (fun h => by omega)
    subst hb
    have hs : isB = false := by rw [← SB.out]; rfl
    subst hs
    have HC0 : Hid (a3 % 3 = 1) := HC
    clear G22 GIN MC IB SB HC
    replace HC := HC0
    clear HC0
    go_wp2_with (go_at_call 13; refine (Word.place _ _ _ (by omega) (by omega) (by omega) (by omega)).mono ?_; rintro e w' ⟨rfl, rfl⟩; rw [HC.out])
    refine (CG.out _).mono ?_
    rintro e wd ⟨rfl, xd⟩
    have Xd := Lib.hid (Xc.out.trans xd)
    clear xd CG Xc
    go_wp2_with fail
    refine (AW.out _).mono ?_
    rintro e we ⟨rfl, xe⟩
    go_wp2_with fail
    go_ret
    exact ⟨rfl, (Xd.out.trans xe).below⟩
  · have CG := Lib.hid (fun W [x : IsExt wc W] => mget (MC.out.ext x.out) 22 0)
    rw [G22.out] at CG
    unfold val num at CG
    have hb : inB = false := by rw [← IB.out]; exact decide_eq_false (fun h => by omega)
    subst hb
    have hs : isB = true := by rw [← SB.out]; rfl
    subst hs
    have HC0 : Hid (a3 % 3 = 2) := HC
    clear G22 GIN MC IB SB HC
    replace HC := HC0
    clear HC0
    go_wp2_with (go_at_call 13; refine (Word.place _ _ _ (by omega) (by omega) (by omega) (by omega)).mono ?_; rintro e w' ⟨rfl, rfl⟩; rw [HC.out])
    refine (CG.out _).mono ?_
    rintro e wd ⟨rfl, xd⟩
    have Xd := Lib.hid (Xc.out.trans xd)
    clear xd CG Xc
    go_wp2_with fail
    refine (AW.out _).mono ?_
    rintro e we ⟨rfl, xe⟩
    go_wp2_with fail
    go_ret
    exact ⟨rfl, (Xd.out.trans xe).below⟩
  · have CG := Lib.hid (fun W [x : IsExt wc W] => mget (MC.out.ext x.out) 22 0)
    rw [G22.out] at CG
    unfold val num at CG
    have hb : inB = false := by rw [← IB.out]; exact decide_eq_false (fun h => by omega)
    subst hb
    have hs : isB = false := by rw [← SB.out]; exact decide_eq_false (fun h => hi0 h.2)
    subst hs
    have HC0 : Hid (a3 % 3 = 2) := HC
    have d1 : ((i : Int) == 0) = false := beq_eq_false_iff_ne.2 (by omega)
    clear G22 GIN MC IB SB HC
    replace HC := HC0
    clear HC0
    go_wp2_with (go_at_call 13; refine (Word.place _ _ _ (by omega) (by omega) (by omega) (by omega)).mono ?_; rintro e w' ⟨rfl, rfl⟩; rw [HC.out])
    refine (CG.out _).mono ?_
    rintro e wd ⟨rfl, xd⟩
    have Xd := Lib.hid (Xc.out.trans xd)
    clear xd CG Xc
    go_wp2_with fail
    refine (AW.out _).mono ?_
    rintro e we ⟨rfl, xe⟩
    go_wp2_with fail
    go_ret
    exact ⟨rfl, (Xd.out.trans xe).below⟩
end Go.Proofs.YtnhijjcplnomgaaGreat.World
