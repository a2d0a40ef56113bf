/-
  The walk of the law FrameNext.
-/
import Derived.Test.YtnhijjcplnomgaaGreatFrameNext0
import Derived.Test.YtnhijjcplnomgaaGreatIRow
import Derived.Test.YtnhijjcplnomgaaGreatWord
import Derived.Laws.BitsLemmas
namespace Go.Proofs.YtnhijjcplnomgaaGreat.World
open Go.RowKit Go.Proofs.YtnhijjcplnomgaaGreat.Plain
set_option linter.unusedVariables false
attribute [local go_sem ↓] Go.wp_at_zero Go.wp_at_succ
def zz (z : List Int) (i : Nat) : Int := z.getD i 0 % 16777216
theorem i64_and255 (n : Int) : bits .and .i64 n 255 = n % 256 := by
  have h : (BitVec.ofInt 64 255).toNat = 2 ^ 8 - 1 := by decide
  have key : (BitVec.ofInt 64 n &&& BitVec.ofInt 64 255).toNat = (n % ((2 ^ 64 : Nat) : Int)).toNat % 2 ^ 8 := by
    rw [BitVec.toNat_and, BitVec.toNat_ofInt, h, Nat.and_two_pow_sub_one_eq_mod]
  show IntKind.i64.wrap ((BitVec.ofInt 64 n &&& BitVec.ofInt 64 255).toNat : Nat) = n % 256
  rw [key, IntKind.wrap_i64]
  omega
theorem conv3 (w : World) (a b c : Int) : Sem.run Tryz.prog (convert 37 9 (.slice (some ⟨w.heap.size, 0, none⟩) 3 3)) (w.alloc (.cells #[.int .u8 a, .int .u8 b, .int .u8 c] 5)) = .ok (.string (strOfNums [a, b, c])) (w.alloc (.cells #[.int .u8 a, .int .u8 b, .int .u8 c] 5)) := by
  have hb := Blk.new w 5 #[.int .u8 a, .int .u8 b, .int .u8 c]
  exact run_convert_bytes_arg _ 37 5 Tryz.underlying37 Tryz.underlying5 w.heap.size 0 3 3 [a, b, c] rfl (fun i hi => by
    have hi : i < 3 := hi
    rw [Nat.zero_add, hb.cell]
    rcases i with _ | _ | _ | i
    · rfl
    · rfl
    · rfl
    · omega) 9 Tryz.underlying9
set_option maxRecDepth 100000 in
set_option maxHeartbeats 1000000 in
theorem frameNext (a0 : Option Addr) (len0 cap0 : Nat) (z0 : List Int) (a1 : Int) (w : World) (w0 : IRow .i64 w a0 len0 cap0 z0) (w1 : (Lit.int .i64 a1).wf = true) :
    Calls Tryz.prog 3 #[.slice a0 len0 cap0, .int .i64 a1] w fun e w' => e = .returned (.bool true) ∧ Below w.heap.size w w' := by
  obtain ⟨x1, x2⟩ := bounds_i64 w1
  obtain ⟨hr, hz, hl⟩ := w0.reads
  have HR := Lib.hid hr
  clear hr w0 w1
  have HF := Lib.hid (@first_ w)
  have HN := Lib.hid lnum
  have HO := Lib.hid lobj
  unfold val num at HN
  unfold val objV at HO
  obtain ⟨n, hn⟩ : ∃ n, n = min len0 50 := ⟨_, rfl⟩
  have n1 : n ≤ len0 := by omega
  have n2 : n ≤ 50 := by omega
  have hn1 : (if (50 : Int) < (len0 : Int) then (50 : Int) else (len0 : Int)) = (n : Int) := by split <;> omega
  have hn2 : (if 50 < len0 then (50 : Int) else (len0 : Int)) = (n : Int) := by split <;> omega
  have hn3 : (if (len0 : Int) < 50 then (len0 : Int) else (50 : Int)) = (n : Int) := by split <;> omega
  clear hn
  go_enter Tryz.func3, Tryz.ntmps3
  go_wp2_with fail
  refine HF.out.mono ?_
  clear HF
  rintro e w1 ⟨x, rfl, b1, x1'⟩
  obtain ⟨vL, fs, vD, vRe, vWa, vDu, vSn⟩ := x
  obtain ⟨y1, y2, y3, y4, y5⟩ := b1.bare
  simp only at y1 y2 y3 y4 y5
  subst y1 y2 y3 y4 y5
  obtain ⟨A, cp, hA⟩ := b1.L.form
  have hA : vL = .slice A 23 cp := hA
  subst hA
  unfold cellsW firstW regs0
  go_upto_region 3 with (fail)
  refine wp_name (fun w2 hW => ?_)
  have xb : Ext w1 w2 := by rw [hW]; exact is_ext _ _
  have B2 : BAt w2 w.heap.size w1.heap.size firstW ⟨.slice A 23 cp, fs, .slice none 0 0, .slice none 0 0, .slice none 0 0, .slice none 0 0, .slice none 0 0⟩ := ⟨by rw [hW]; exact Blk.new _ _ _, b1.ext xb⟩
  have X2 := Lib.hid (x1'.trans xb)
  have BH := Lib.hid B2
  have s1 := x1'.below.size
  clear hW B2 b1 x1' xb
  generalize hb : w1.heap.size = b at *
  go_wp2_with fail
  go_loopw [6, 8] (fun sv iv wr => ∃ k : Nat, k ≤ n ∧ sv = .string (putS (zz z0) k) ∧ iv = .int .i64 k ∧ BAt wr w.heap.size b firstW ⟨.slice A 23 cp, fs, .slice none 0 0, .slice none 0 0, .slice none 0 0, .slice none 0 0, .slice none 0 0⟩ ∧ Ext w wr) (fun _ iv _ => n - (intOf iv).toNat)
  case atStart => exact ⟨0, by omega, rfl, rfl, BH.out, X2.out⟩
  case round =>
    clear BH X2 hn1 hn2 hn3
    obtain ⟨k, hk, rfl, rfl, bk, xk⟩ := hrel
    have BK := Lib.hid bk
    have XK := Lib.hid xk
    by_cases hlt : k < n
    · have iI : (k : Int) < (n : Int) := by omega
      have iL : (k : Int) < (len0 : Int) := by omega
      obtain ⟨rb, roff, rfl, hrb, hrc, hwf⟩ := HR.out k (by omega)
      have c0 := (xk.below.cell (p := ⟨rb, roff + k, none⟩) hrb).trans hrc
      obtain ⟨z1, z2⟩ := bounds_i64 hwf
      have hrb2 : rb < wr.heap.size := by have := xk.below.size; omega
      have PS := Lib.hid (putS_succ (zz z0) k)
      have PZ := Lib.hid (putS_size (zz z0) k)
      have EZ : zz z0 k = z0.getD k 0 % 16777216 := rfl
      rw [EZ] at PS
      generalize hzz : z0.getD k 0 = z at *
      have PT : Hid (ins3 (z % 16777216) = [z % 256, z % 16777216 / 256 % 256, z % 16777216 / 65536]) := Lib.hid (by
        unfold ins3
        rw [show z % 16777216 % 256 = z % 256 from by omega, show z % 16777216 / 65536 % 256 = z % 16777216 / 65536 from by omega])
      rw [PT.out] at PS
      have HC := conv3 wr (z % 256) (z % 16777216 / 256 % 256) (z % 16777216 / 65536)
      generalize putS (zz z0) k = s at *
      obtain ⟨s', hs'⟩ : ∃ s', s' = putS (zz z0) (k + 1) := ⟨_, rfl⟩
      rw [← hs'] at PS
      have HS' := Lib.hid hs'
      clear hs'
      have hadd : ∀ W : World, Sem.run Tryz.prog (Op.stringOp .add s (strOfNums [z % 256, z % 16777216 / 256 % 256, z % 16777216 / 65536])) W = .ok (.string (s ++ strOfNums [z % 256, z % 16777216 / 256 % 256, z % 16777216 / 65536])) W := fun W => run_string_add_sum W _ _ (by rw [PZ.out, strOfNums_size]; simp only [List.length_cons, List.length_nil]; omega)
      rw [← PS.out] at hadd
      clear xk bk hrc hwf EZ PT PS
      go_wp2_with (go_at_call 13; refine (Word.place _ _ _ (by omega) (by omega) (by omega) (by omega)).mono ?_; rintro e w' ⟨rfl, rfl⟩)
      go_roundw
      case rel => exact ⟨k + 1, by omega, by rw [← HS'.out], by go_num, BK.out.ext (is_ext _ _), XK.out.alloc _⟩
      case measure => simp [intOf]; omega
    · obtain rfl : n = k := by omega
      have hB : (putS (zz z0) n).size ≤ 150 := by rw [putS_size]; omega
      have PZ := Lib.hid (putS_size (zz z0) n)
      have P0 := Lib.hid (fun i hi => putS_0 (zz z0) n i hi)
      have P1 := Lib.hid (fun i hi => putS_1 (zz z0) n i hi)
      have P2 := Lib.hid (fun i hi => putS_2 (zz z0) n i hi)
      generalize putS (zz z0) n = B at *
      have lo1 : w.heap.size ≤ wr.heap.size := xk.below.size
      have C1 := Lib.hid (badd bk lo1 (vF := .slice none 0 0) (F := []) (row_nil _ _ _) (fun k hk => by simp [Value.ownBlock] at hk) 8 3 B (by decide) (by decide))
      clear xk bk hlt
      go_wp2_with fail
      refine C1.out.mono ?_
      rintro e wA ⟨rfl, vA, bA, kA⟩
      have XA : Hid (Ext w wA) := Lib.hid (Ext.of_below (Keep.below XK.out.below kA XK.out.below.size (fun i hi h => by
        rcases h with h | h
        · omega
        · have := (BK.out.bu.L.block h).1; omega)))
      have BA : Hid (BAt wA w.heap.size b (textW B) vA) := Lib.hid bA
      clear bA kA C1 BK XK
      rw [show ((firstW.L.length : Nat) : Int) = 23 from rfl]
      have i0 : IsExt wA wA := ⟨Ext.refl _⟩
      go_wp2_with (first | (go_at_call 15; refine (HN.out _ _).mono ?_; rintro e w3 ⟨rfl, x3⟩; have i3 : IsExt wA w3 := ⟨(is_ext wA _).trans x3⟩; clear x3) | (go_at_call 16; refine (HO.out _ _).mono ?_; rintro e w4 ⟨rfl, x4⟩; have i4 : IsExt wA w4 := ⟨(is_ext wA _).trans x4⟩; clear x4))
      refine wp_name_calls (fun w5 hW => ?_)
      have x5 : Ext wA w5 := by rw [hW]; exact is_ext _ _
      have b5 : Blk w5 w4.heap.size 40 (flat 4 2 (cF [num 0, num 0, num 0, objV 23])).toArray := by rw [hW]; exact Blk.new _ _ _
      have X5 := Lib.hid (XA.out.trans x5)
      have D := badd (F := [num 0, num 0, num 0, objV 23]) (BA.out.ext x5) X5.out.below.size (row_flat (n := 4) b5 (by omega)) (typ_blk b5) 11 1 ByteArray.empty (by rw [textW_len]; omega) (by show _ ≤ firstW.last + 1 ∧ firstW.last + 1 ≤ _; decide)
      rw [textW_len] at D
      have DH := Lib.hid D
      have OB := Lib.hid (fun j h => (BA.out.bu.L.block (j := j) h).1)
      clear hW b5 D x5 XA i0 BA
      refine DH.out.mono ?_
      rintro e wB ⟨rfl, vB, bB, kB⟩
      have XB : Hid (Ext w wB) := Lib.hid (Ext.of_below (Keep.below X5.out.below kB X5.out.below.size (fun i hi h => by
        rcases h with h | h
        · omega
        · have := OB.out _ h; omega)))
      have BB : Hid (BAt wB w.heap.size b (methW B) vB) := Lib.hid bB
      clear bB kB DH X5 OB
      rw [show (((24 : Nat) : Nat) : Int) = 24 from rfl]
      have iB : IsExt wB wB := ⟨Ext.refl _⟩
      go_wp2_with fail
      refine (HN.out _ _).mono ?_
      rintro e wC ⟨rfl, xC⟩
      have XC := Lib.hid (XB.out.trans xC)
      have CS := bstart (BB.out.ext xC) XC.out.below.size 24 0 5 (num 0) (by rw [methW_len]; omega) (by show _ ≤ firstW.last + 1 + 1 ∧ firstW.last + 1 + 1 ≤ _; decide)
      rw [methW_len, show ((25 + 1 : Nat) : Int) = 26 from rfl, show ((25 : Nat) : Int) = 25 from rfl] at CS
      replace CS := Lib.hid CS
      unfold val num at CS
      clear xC BB XB iB
      go_wp2_with fail
      refine CS.out.mono ?_
      rintro e wD ⟨rfl, ⟨vD, bD⟩, kD⟩
      have XD : Hid (Ext w wD) := Lib.hid (Ext.of_below (Keep.below XC.out.below kD XC.out.below.size (fun i hi h => by omega)))
      have bD : BAt wD w.heap.size b (codeW B) vD := bD
      have ck := codeW_check B (by omega)
      have NX : Hid ((newS (codeW B) 5).Nx 25 24 23 ((0 : Nat) : Int) B) := Lib.hid (codeW_nx B (by omega))
      have CN := Lib.hid (objnew (W := codeW B) (bD.bu.at_ (nums_of_check ck)) ck rfl 5)
      obtain ⟨p1, p2, p3⟩ := bD.blk.rules
      unfold cellsW at p1
      unfold cellsW at CN
      clear bD kD CS XC ck
      generalize codeW B = W0 at *
      go_wp2_with fail
      refine CN.out.mono ?_
      rintro e w6 ⟨m, F, rfl, m6, hF, x6'⟩
      have X6 := Lib.hid (XD.out.trans x6')
      have FL : Hid (∀ k, F k → w.heap.size ≤ k) := Lib.hid (fun k hk => by have := hF k hk; have := XD.out.below.size; omega)
      have M6 := Lib.hid m6
      clear hF m6 x6' CN p1 p2 p3 XD
      generalize newS W0 5 = S0 at *
      have LF := Lib.hid M6.out.lt
      have PV : Hid (∀ i, i < n → byteN B (3 * i) = z0.getD i 0 % 256 ∧ byteN B (3 * i + 1) = z0.getD i 0 % 16777216 / 256 % 256 ∧ byteN B (3 * i + 2) = z0.getD i 0 % 16777216 / 65536) := Lib.hid (fun i hi => by
        have a := P0.out i hi
        have b := P1.out i hi
        have c := P2.out i hi
        unfold zz at a b c
        omega)
      clear P0 P1 P2
      go_wp2_with fail
      go_loopw [16] (fun iv wr => ∃ k : Nat, k ≤ n ∧ iv = .int .i64 k ∧ (∃ S, M wr F m S ∧ S.Nx 25 24 23 k B) ∧ Ext w wr) (fun iv _ => n - (intOf iv).toNat)
      case atStart => exact ⟨0, by omega, rfl, ⟨_, M6.out, NX.out⟩, X6.out⟩
      case round =>
        clear M6 NX X6 S0
        obtain ⟨k, hk, rfl, ⟨S, mT, nx⟩, xk⟩ := hrel
        have NX := Lib.hid nx
        have XK := Lib.hid xk
        by_cases hlt : k < n
        · have iI : (k : Int) < (n : Int) := by omega
          have iL : (k : Int) < (len0 : Int) := by omega
          obtain ⟨rb, roff, rfl, hrb, hrc, hwf⟩ := HR.out k (by omega)
          obtain ⟨z1, z2⟩ := bounds_i64 hwf
          have CF := fnext_in mT nx (by omega) (by rw [PZ.out]; omega)
          obtain ⟨e0, e1, e2⟩ := PV.out k hlt
          rw [e0, e1, e2] at CF
          replace CF := Lib.hid CF
          have NS := Lib.hid (nx.step (n := (k : Int) + 1) (by omega)).2
          have HC0 := Lib.hid hrc
          generalize hzz : z0.getD k 0 = z at *
          have g0 : bits .and .i64 (z % 16777216) 255 = z % 256 := by rw [i64_and255]; omega
          have g1 : bits .and .i64 (z % 16777216 / 256) 255 = z % 16777216 / 256 % 256 := i64_and255 _
          clear mT nx xk hrc hwf e0 e1 e2
          go_wp2_with fail
          refine CF.out.mono ?_
          rintro e wA ⟨rfl, mA, kA⟩
          have XA : Hid (Ext w wA) := Lib.hid (Ext.of_below (Keep.below XK.out.below kA XK.out.below.size (fun i hi h => by have := FL.out i h; omega)))
          have c0 := (XA.out.below.cell (p := ⟨rb, roff + k, none⟩) hrb).trans HC0.out
          have hrb2 : rb < wA.heap.size := by have := XA.out.below.size; omega
          have MA := Lib.hid mA
          clear mA kA CF XK
          go_wp2_with (go_at_call 13; refine (Word.place _ _ _ (by omega) (by omega) (by omega) (by omega)).mono ?_; rintro e w' ⟨rfl, rfl⟩)
          go_roundw
          case rel => exact ⟨k + 1, by omega, by go_num, ⟨_, MA.out.ext (is_ext _ _), NS.out⟩, XA.out.alloc _⟩
          case measure => simp [intOf]; omega
        · obtain rfl : n = k := by omega
          have CF := Lib.hid (fun W [x : IsExt wr W] => fnext_out (mT.ext x.out) nx (by omega) (by rw [PZ.out]; omega) (by omega))
          have MT := Lib.hid mT
          have AW := Lib.hid awake14
          obtain ⟨t, ht⟩ : ∃ t, a1 % 80 - 5 = t := ⟨_, rfl⟩
          have t1 : -5 ≤ t := by omega
          have t2 : t ≤ 74 := by omega
          have HT := Lib.hid ht
          have iR : IsExt wr wr := ⟨Ext.refl _⟩
          clear mT nx xk hlt HN HO ht
          go_wp2_with fail
          refine (CF.out _).mono ?_
          rintro e wA ⟨rfl, xA⟩
          have iA : IsExt wr wA := ⟨xA⟩
          clear xA CF iR
          go_wp2_with (go_at_call 13; refine (Word.place _ _ _ (by omega) (by omega) (by omega) (by omega)).mono ?_; rintro e w' ⟨rfl, rfl⟩)
          rw [HT.out]
          refine calls_name (fun wB hB => ?_)
          have iB : IsExt wr wB := ⟨by rw [hB]; exact is_ext _ _⟩
          have CG := fgo (MT.out.ext iB.out) NX.out.ph 25 t
          have XB := Lib.hid (XK.out.trans iB.out)
          clear hB iA MT XK iB
          generalize wA.heap.size = gA at *
          by_cases hin : 0 ≤ t ∧ t ≤ 60
          · obtain ⟨h0, h60⟩ := hin
            have d1 : decide (0 ≤ t) = true := decide_eq_true h0
            have d2 : decide (t ≤ 60) = true := decide_eq_true h60
            obtain ⟨ok, nx⟩ := NX.out.step (n := t) (by omega)
            have gi : S.goIn 25 t = true := by unfold MS.goIn; rw [decide_eq_true ⟨h0, h60⟩, NX.out.fr.is]; rfl
            have go : S.goOK 25 t = true := by unfold MS.goOK; rw [gi, ok]; rfl
            have gt : S.goTo 25 t = S.set 25 1 (num t) := by unfold MS.goTo; rw [gi, if_pos rfl]
            rw [go, gt] at CG
            generalize S.set 25 1 (num t) = P at *
            obtain ⟨q, rfl⟩ := Int.eq_ofNat_of_zero_le h0
            have NQ := Lib.hid nx
            have CG' := Lib.hid CG
            clear NX ok gi go gt CG nx
            refine CG'.out.mono ?_
            rintro e wC ⟨rfl, mC, kC⟩
            have XC : Hid (Ext w wC) := Lib.hid (Ext.of_below (Keep.below XB.out.below kC XB.out.below.size (fun i hi h => by have := FL.out i h; omega)))
            by_cases hlt : q < n
            · have qL : (q : Int) < (len0 : Int) := by omega
              obtain ⟨rb, roff, rfl, hrb, hrc, hwf⟩ := HR.out q (by omega)
              obtain ⟨z1, z2⟩ := bounds_i64 hwf
              have CF := fnext_in mC NQ.out (by omega) (by rw [PZ.out]; omega)
              obtain ⟨e0, e1, e2⟩ := PV.out q hlt
              rw [e0, e1, e2] at CF
              replace CF := Lib.hid CF
              have HC0 := Lib.hid hrc
              generalize hzz : z0.getD q 0 = z at *
              have g0 : bits .and .i64 (z % 16777216) 255 = z % 256 := by rw [i64_and255]; omega
              have d3 : decide ((q : Int) < (n : Int)) = true := decide_eq_true (by omega)
              clear mC kC XB NQ hrc hwf e0 e1 e2 CG'
              go_wp2_with fail
              refine CF.out.mono ?_
              rintro e wD ⟨rfl, mD, kD⟩
              have XD : Hid (Ext w wD) := Lib.hid (Ext.of_below (Keep.below XC.out.below kD XC.out.below.size (fun i hi h => by have := FL.out i h; omega)))
              have c0 := (XD.out.below.cell (p := ⟨rb, roff + q, none⟩) hrb).trans HC0.out
              have hrb2 : rb < wD.heap.size := by have := XD.out.below.size; omega
              clear mD kD CF XC
              go_upto_region 30 with (fail)
              refine wp_name (fun wE hE => ?_)
              have xE : Ext wD wE := by rw [hE]; exact is_ext _ _
              have BE : Blk wE wD.heap.size 50 #[.int .i64 (z % 256), .int .i64 (z % 16777216 / 256 % 256), .int .i64 (z % 16777216 / 65536)] := by rw [hE]; exact Blk.new _ _ _
              have c1 := (xE.below.cell (p := ⟨rb, roff + q, none⟩) hrb2).trans c0
              have hrb3 : rb < wE.heap.size := by have := xE.below.size; omega
              have XE := Lib.hid (XD.out.trans xE)
              obtain ⟨r1, r2, r3⟩ := BE.rules
              clear hE xE BE c0 hrb2 XD
              generalize wD.heap.size = gE at *
              refine wp_region_ext (by kernel_rfl) (by kernel_rfl) ?_
              repeat (go_big_quiet_step ((first | (go_at_call 13; exact calls_same (Word.place _ _ _ (by omega) (by omega) (by omega) (by omega))) | (go_at_call 21; exact calls_ext (AW.out _)))))
              refine wpQuiet_nil ?_
              rintro W ⟨x, rfl⟩
              go_wp2_with fail
              go_ret
              exact ⟨rfl, (XE.out.trans ⟨_, rfl⟩).below⟩
            · have CF := Lib.hid (fun W [x : IsExt wC W] => fnext_out (mC.ext x.out) NQ.out (by omega) (by rw [PZ.out]; omega) (by omega))
              have d3 : decide ((q : Int) < (n : Int)) = false := decide_eq_false (by omega)
              have iC : IsExt wC wC := ⟨Ext.refl _⟩
              have hqn : ¬ (q : Int) < (n : Int) := by omega
              clear mC kC XB NQ CG'
              go_wp2_with fail
              refine (CF.out _).mono ?_
              rintro e wD ⟨rfl, xD⟩
              have XD := Lib.hid (XC.out.trans xD)
              clear xD CF XC iC
              go_upto_region 30 with (fail)
              refine wp_name (fun wE hE => ?_)
              have xE : Ext wD wE := by rw [hE]; exact is_ext _ _
              have BE : Blk wE wD.heap.size 50 #[.int .i64 0, .int .i64 0, .int .i64 0] := by rw [hE]; exact Blk.new _ _ _
              have XE := Lib.hid (XD.out.trans xE)
              obtain ⟨r1, r2, r3⟩ := BE.rules
              clear hE xE BE XD
              generalize wD.heap.size = gE at *
              refine wp_region_ext (by kernel_rfl) (by kernel_rfl) ?_
              repeat (go_big_quiet_step ((first | (go_at_call 21; exact calls_ext (AW.out _)))))
              refine wpQuiet_nil ?_
              rintro W ⟨x, rfl⟩
              go_wp2_with fail
              go_ret
              exact ⟨rfl, (XE.out.trans ⟨_, rfl⟩).below⟩
          · have gi : S.goIn 25 t = false := by unfold MS.goIn; rw [decide_eq_false hin]; rfl
            have go : S.goOK 25 t = false := by unfold MS.goOK; rw [gi]; rfl
            rw [go] at CG
            have hno : 0 ≤ t → ¬ t ≤ 60 := fun a b => hin ⟨a, b⟩
            replace CG := Lib.hid CG
            clear NX gi go hin
            refine CG.out.mono ?_
            rintro e wC ⟨rfl, mC, kC⟩
            have XC : Hid (Ext w wC) := Lib.hid (Ext.of_below (Keep.below XB.out.below kC XB.out.below.size (fun i hi h => by have := FL.out i h; omega)))
            clear mC kC XB CG
            by_cases h0 : 0 ≤ t
            · have h60 : ¬ t ≤ 60 := hno h0
              have d1 : decide (0 ≤ t) = true := decide_eq_true h0
              have d2 : decide (t ≤ 60) = false := decide_eq_false h60
              go_wp2_with (go_at_call 21; refine (AW.out _).mono ?_; rintro e wF ⟨rfl, xF⟩)
              go_ret
              exact ⟨rfl, (XC.out.trans xF).below⟩
            · have d1 : decide (0 ≤ t) = false := decide_eq_false h0
              clear hno
              go_wp2_with (go_at_call 21; refine (AW.out _).mono ?_; rintro e wF ⟨rfl, xF⟩)
              go_ret
              exact ⟨rfl, (XC.out.trans xF).below⟩
end Go.Proofs.YtnhijjcplnomgaaGreat.World
