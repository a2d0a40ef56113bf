/-
  The walk of the law SimplePushes.
-/
import Derived.Test.YtnhijjcplnomgaaGreatPushB
import Derived.Test.YtnhijjcplnomgaaGreatIRow
import Derived.Test.YtnhijjcplnomgaaGreatWord
namespace Go.Proofs.YtnhijjcplnomgaaGreat.World
open Go.RowKit Go.Proofs.YtnhijjcplnomgaaGreat.Plain
set_option linter.unusedVariables false
attribute [local go_sem ↓] Go.wp_at_zero Go.wp_at_succ
/-- a slice of numbers of the call's own -/
def OwnW (w : World) (base : Nat) (v : Value) (zs : List Int) : Prop := w.ownsRow base 3 1 v zs.length (zs.map (Value.int .i64))
theorem OwnW.block {w : World} {base j : Nat} {v : Value} {zs : List Int} (h : OwnW w base v zs) (hj : v.ownBlock = some j) : base ≤ j ∧ ∃ cs, Blk w j 3 cs := by
  have h : w.ownsRow base 3 1 v zs.length (zs.map (Value.int .i64)) := h
  rcases h.2 with ⟨rfl, h0⟩ | ⟨g, cap, cur, rfl, hb, hg, _⟩
  · simp [Value.ownBlock] at hj
  · simp [Value.ownBlock] at hj
    subst hj
    exact ⟨hb, cur, hg⟩
theorem OwnW.far {w w' : World} {base : Nat} {v : Value} {zs : List Int} {P : Nat → Prop} (h : OwnW w base v zs) (k : Keep P w w') (hn : ∀ j, v.ownBlock = some j → ¬ P j) : OwnW w' base v zs := by
  have h : w.ownsRow base 3 1 v zs.length (zs.map (Value.int .i64)) := h
  refine ⟨h.1, ?_⟩
  rcases h.2 with hh | ⟨g, cap, cur, e1, h1, hg, rest⟩
  · exact .inl hh
  · exact .inr ⟨g, cap, cur, e1, h1, Blk.keep (show Blk w g 3 cur from hg) k (hn g (by rw [e1]; rfl)), rest⟩
theorem OwnW.ext {w w' : World} {base : Nat} {v : Value} {zs : List Int} (h : OwnW w base v zs) (x : Ext w w') : OwnW w' base v zs := h.far (P := fun _ => False) (Keep.of_ext x _) (fun _ _ hf => hf)
theorem OwnW.form {w : World} {base : Nat} {v : Value} {zs : List Int} (h : OwnW w base v zs) : ∃ A c, v = .slice A zs.length c := by
  have h : w.ownsRow base 3 1 v zs.length (zs.map (Value.int .i64)) := h
  rcases h.2 with ⟨rfl, h0⟩ | ⟨g, cap, cur, rfl, hb, hg, _⟩
  · exact ⟨none, 0, by rw [h0]⟩
  · exact ⟨_, _, rfl⟩
theorem OwnW.at_ {w : World} {base : Nat} {v : Value} {zs : List Int} (h : OwnW w base v zs) (i : Nat) (hi : i < zs.length) : ∃ g c, v = .slice (some ⟨g, 0, none⟩) zs.length c ∧ zs.length ≤ c ∧ c ≤ 9223372036854775807 ∧ g < w.heap.size ∧ w.cell? ⟨g, i, none⟩ = some (.int .i64 (zs.getD i 0)) ∧ ∀ j, w.frozen? ⟨g, j, none⟩ = false := by
  have h : w.ownsRow base 3 1 v zs.length (zs.map (Value.int .i64)) := h
  rcases h.2 with ⟨rfl, h0⟩ | ⟨g, cap, cur, rfl, hb, hg, hn, hcap, hsz, ht⟩
  · omega
  · have hB : Blk w g 3 cur := hg
    unfold maxLen at hcap
    refine ⟨g, cap, rfl, hn, by omega, hB.lt, ?_, hB.frozen⟩
    rw [hB.cell, ← Array.getElem?_toList]
    have e1 : (zs.map (Value.int .i64))[i]? = some (.int .i64 (zs.getD i 0)) := by
      rw [List.getElem?_map, List.getElem?_eq_getElem hi, List.getD_eq_getElem?_getD, List.getElem?_eq_getElem hi]; rfl
    rw [← ht, List.getElem?_take_of_lt (by omega)] at e1
    exact e1
theorem OwnW.nil (w : World) (base : Nat) : OwnW w base (.slice none 0 0) [] := World.ownsRow_nil _ _ _ _
theorem infoInt : (Tryz.prog.info? 3).map (fun i => (i.zero, i.size, i.bytes)) = some (some (.int .i64 0), 1, 8) := by kernel_rfl
/-- what is pushed -/
def wnt (z : List Int) (j : Nat) : Int := z.getD j 0 % 256 - 128
def wants (z : List Int) (k : Nat) : List Int := (List.range k).map (wnt z)
theorem wants_len (z : List Int) (k : Nat) : (wants z k).length = k := by unfold wants; simp
theorem wants_succ (z : List Int) (k : Nat) : wants z (k + 1) = wants z k ++ [z.getD k 0 % 256 - 128] := by unfold wants wnt; rw [List.range_succ, List.map_append]; rfl
theorem wants_at (z : List Int) (k j : Nat) (hj : j < k) : (wants z k).getD j 0 = wnt z j := by
  unfold wants
  rw [List.getD_eq_getElem?_getD, List.getElem?_map, List.getElem?_range hj]; rfl
def wantF (z : List Int) (j : Nat) : PV := num (wnt z j)
theorem wantF_may (z : List Int) (j : Nat) (T : MS) : T.may (wantF z j) = true := MS.fits_small (n := wnt z j) (by unfold wnt; omega)
theorem ownV {w : World} {b n : Nat} {v : Value} {F : List PV} (hn : 0 < n) (h : Own w b 40 v n 2 (cF F)) : ∃ g cap, v = .slice (some ⟨g, 0, none⟩) n cap ∧ n ≤ cap ∧ cap ≤ 9223372036854775807 ∧ g < w.heap.size ∧ (∀ i, i < n → w.cell? ⟨g, i * 2, none⟩ = some (.bool (vAt F i).obj) ∧ w.cell? ⟨g, i * 2 + 1, none⟩ = some (.int .i64 (vAt F i).n)) := by
  obtain ⟨g, cap, rfl, hc1, hc2, hg, _⟩ := h.lt 0 hn
  refine ⟨g, cap, rfl, by omega, by omega, hg, fun i hi => ?_⟩
  obtain ⟨g', cap', e, _, _, _, hc, _⟩ := h.lt i hi
  injection e with e1 e2 e3
  injection e1 with e1
  injection e1 with e1
  subst e1
  exact ⟨hc 0 (by omega), hc 1 (by omega)⟩
theorem SP.congr {S : MS} {n : Nat} {f g : Nat → PV} (h : SP S n f) (e : ∀ j, j < n → f j = g j) : SP S n g := ⟨h.std, h.fr, h.me, h.meth, h.blk, h.sp, fun j hj => (h.st j hj).trans (e j hj), h.f23, h.s23, h.g23, h.f25, h.s25, h.g25⟩
set_option maxRecDepth 100000 in
set_option maxHeartbeats 1000000 in
theorem simplePushes (a0 : Option Addr) (len0 cap0 : Nat) (z0 : List Int) (a1 : Int) (w : World) (w0 : IRow .i64 w a0 len0 cap0 z0) (w1 : (Lit.int .i64 a1).wf = true) :
    Calls Tryz.prog 5 #[.slice a0 len0 cap0, .int .i64 a1] w fun e w' => e = .returned (.bool true) ∧ Below w.heap.size w w' := by
  obtain ⟨x1, x2⟩ := bounds_i64 w1
  obtain ⟨hr, hz, hl⟩ := w0.reads
  have HR := Lib.hid hr
  clear hr w0 w1
  have HF := Lib.hid (@first_ w)
  have HN := Lib.hid lnum
  have HO := Lib.hid lobj
  unfold val num at HN
  unfold val objV at HO
  go_enter Tryz.func5, Tryz.ntmps5
  go_wp2_with fail
  refine HF.out.mono ?_
  clear HF
  rintro e w1 ⟨xw, rfl, b1, x1'⟩
  obtain ⟨vL, fs, vD, vRe, vWa, vDu, vSn⟩ := xw
  obtain ⟨y1, y2, y3, y4, y5⟩ := b1.bare
  simp only at y1 y2 y3 y4 y5
  subst y1 y2 y3 y4 y5
  obtain ⟨A, cp, hA⟩ := b1.L.form
  have hA : vL = .slice A 23 cp := hA
  subst hA
  unfold cellsW firstW regs0
  go_upto_region 2 with (fail)
  refine wp_name (fun w2 hW => ?_)
  have xb : Ext w1 w2 := by rw [hW]; exact is_ext _ _
  have B2 : BAt w2 w.heap.size w1.heap.size firstW ⟨.slice A 23 cp, fs, .slice none 0 0, .slice none 0 0, .slice none 0 0, .slice none 0 0, .slice none 0 0⟩ := ⟨by rw [hW]; exact Blk.new _ _ _, b1.ext xb⟩
  have X2 := Lib.hid (x1'.trans xb)
  have BH := Lib.hid B2
  have s1 := x1'.below.size
  clear hW B2 b1 x1' xb
  generalize hb : w1.heap.size = b at *
  go_wp2_with (go_at_call 15; refine (HN.out _ _).mono ?_; rintro e w3 ⟨rfl, x3⟩; have i3 : IsExt w2 w3 := ⟨(is_ext w2 _).trans x3⟩; clear x3)
  refine wp_name_calls (fun w4 hW => ?_)
  have x4 : Ext w2 w4 := by rw [hW]; exact is_ext _ _
  have b4 : Blk w4 w3.heap.size 40 (flat 2 2 (cF [num 3, num 4])).toArray := by rw [hW]; exact Blk.new _ _ _
  have X4 := Lib.hid (X2.out.trans x4)
  have B4 := Lib.hid (BH.out.ext x4)
  have D := badd (F := [num 3, num 4]) B4.out X4.out.below.size (row_flat (n := 2) b4 (by omega)) (typ_blk b4) 7 1 ByteArray.empty (by decide) (by decide)
  have DH := Lib.hid D
  clear hW b4 D x4 X2 BH
  refine DH.out.mono ?_
  rintro e wA ⟨rfl, vA, bA, kA⟩
  have XA : Hid (Ext w wA) := Lib.hid (Ext.of_below (Keep.below X4.out.below kA X4.out.below.size (fun i hi h => by
    rcases h with h | h
    · omega
    · have := (B4.out.bu.L.block h).1; omega)))
  have BA : Hid (BAt wA w.heap.size b (firstW.add 7 1 [num 3, num 4] ByteArray.empty) vA) := Lib.hid bA
  clear bA kA DH X4 B4
  rw [show ((firstW.L.length : Nat) : Int) = 23 from rfl]
  have iA : IsExt wA wA := ⟨Ext.refl _⟩
  go_wp2_with (go_at_call 15; refine (HN.out _ _).mono ?_; rintro e w5 ⟨rfl, x5⟩; have i5 : IsExt wA w5 := ⟨x5⟩; clear x5)
  refine wp_name_calls (fun w6 hW => ?_)
  have x6 : Ext wA w6 := by rw [hW]; exact is_ext _ _
  have b6 : Blk w6 w5.heap.size 40 #[.bool (num 9).obj, .int .i64 (num 9).n] := by rw [hW]; exact Blk.new _ _ _
  have X6 := Lib.hid (XA.out.trans x6)
  have len24 : (firstW.add 7 1 [num 3, num 4] ByteArray.empty).L.length = 24 := by rw [len_add]; rfl
  have CM := bmethL (BA.out.ext x6) X6.out.below.size 0 2 0 (num 9) b6 (by rw [len24]; omega) (by show _ ≤ firstW.last + 1 ∧ firstW.last + 1 ≤ _; decide)
  rw [len24] at CM
  clear hW x6 b6 XA BA iA i5
  refine CM.mono ?_
  clear CM
  rintro e w7 ⟨rfl, ⟨v7, h7⟩, k7⟩
  have X7 : Hid (Ext w w7) := Lib.hid (Ext.of_below (Keep.below X6.out.below k7 X6.out.below.size (fun i hi h => by omega)))
  have H7 := Lib.hid h7
  have len26 : ((firstW.add 7 1 [num 3, num 4] ByteArray.empty).methL 0 2 0 [num 9]).L.length = 26 := by unfold PW.methL; rw [len_add, len_add, len24]
  have CS : Hid (∀ W [x : IsExt w7 W], Calls Tryz.prog 17 #[.pointer (some ⟨b, 0, none⟩), .int .i64 25, .int .i64 2, .agg #[.bool true, .int .i64 23], .int .i64 5] W fun e w' => e = .returned (.tuple #[.int .i64 27, .int .i64 26]) ∧ (∃ x', BAt w' w.heap.size b pushesW x') ∧ Ext w w') := Lib.hid (fun W x => by
    have xw : Ext w W := X7.out.trans x.out
    have q := bstart (H7.out.ext x.out) xw.below.size 25 2 5 (objV 23) (by rw [len26]; omega) (by show _ ≤ firstW.last + 1 + 1 + 1 ∧ firstW.last + 1 + 1 + 1 ≤ _; decide)
    rw [len26] at q
    exact q.mono (fun e w' ⟨he, hb, hk⟩ => ⟨he, hb, Ext.of_below (Keep.below xw.below hk xw.below.size (fun i hi h => by omega))⟩))
  have i7 : IsExt w7 w7 := ⟨Ext.refl _⟩
  clear h7 k7 X6 len24 len26
  go_wp2_with (go_at_call 16; refine (HO.out _ _).mono ?_; rintro e w8 ⟨rfl, x8⟩; have i8 : IsExt w7 w8 := ⟨(is_ext w7 _).trans x8⟩; clear x8)
  refine (CS.out _).mono ?_
  rintro e w9 ⟨rfl, ⟨v9, h9⟩, x9⟩
  have S0 := Lib.hid (sp0 (wantF z0))
  have SL : Hid ((newS pushesW 5).L.length = 28 ∧ (newS pushesW 5).last < 3000) := Lib.hid ⟨pushesW_len, by decide +kernel⟩
  have CN := Lib.hid (objnew (W := pushesW) (h9.bu.at_ (nums_of_check pushesW_check)) pushesW_check rfl 5)
  obtain ⟨p1, p2, p3⟩ := h9.blk.rules
  have X9 := Lib.hid x9
  unfold cellsW at p1
  unfold cellsW at CN
  clear h9 x9 CS X7 H7 i7 i8
  generalize pushesW = W0 at *
  go_wp2_with fail
  refine CN.out.mono ?_
  rintro e wC ⟨m, F, rfl, mC, hF, xC⟩
  have XC := Lib.hid (X9.out.trans xC)
  have FL : Hid (∀ k, F k → w.heap.size ≤ k) := Lib.hid (fun k hk => by have := hF k hk; have := X9.out.below.size; omega)
  have MC := Lib.hid mC
  have LTC := Lib.hid mC.lt
  clear hF mC xC CN p1 p2 p3 X9
  generalize newS W0 5 = S1 at *
  have hCle : w.heap.size ≤ wC.heap.size := XC.out.below.size
  generalize hhC : wC.heap.size = hc at *
  go_wp2_with fail
  go_loopw [12, 13] (fun v iv wr => ∃ k : Nat, k ≤ len0 ∧ k ≤ 12 ∧ iv = .int .i64 k ∧ OwnW wr hc v (wants z0 k) ∧ (∃ S, M wr F m S ∧ SP S k (wantF z0) ∧ S.L.length = 28 ∧ S.last < 3000) ∧ Ext w wr ∧ hc ≤ wr.heap.size) (fun v iv _ => 12 - (intOf iv).toNat)
  case atStart => exact ⟨0, by omega, by omega, rfl, OwnW.nil _ _, ⟨_, MC.out, S0.out, SL.out.1, SL.out.2⟩, XC.out, by omega⟩
  case round =>
    obtain ⟨k, hk, hk12, rfl, ok, ⟨T, mT, fT, lT, aT⟩, xk, hle⟩ := hrel
    clear MC S0 SL XC
    have XK := Lib.hid xk
    have OK := Lib.hid ok
    have MT := Lib.hid mT
    have FT := Lib.hid fT
    by_cases hlt : k < len0 ∧ k < 12
    · obtain ⟨hlt, h12⟩ := hlt
      have iL : (k : Int) < (len0 : Int) := by omega
      have i12 : (k : Int) < 12 := by omega
      obtain ⟨rb, roff, rfl, hrb, hrc, hwf⟩ := HR.out k (by omega)
      have c0 := (xk.below.cell (p := ⟨rb, roff + k, none⟩) hrb).trans hrc
      obtain ⟨z1, z2⟩ := bounds_i64 hwf
      have hrb2 : rb < wr.heap.size := by have := xk.below.size; omega
      obtain ⟨pu1, pu2, pu3, _, _⟩ := fT.push (by omega) (wantF_may z0 k T)
      have fP : SP (T.push 26 (wantF z0 k)) (k + 1) (wantF z0) := pu2.congr (fun j hj => by by_cases e : j = k <;> simp [e])
      have lP : (T.push 26 (wantF z0 k)).L.length = 28 := pu3.len.trans lT
      have aP : (T.push 26 (wantF z0 k)).last < 3000 := by rw [pu3.last]; exact aT
      have eW : wantF z0 k = num (z0.getD k 0 % 256 - 128) := rfl
      have PS := wants_succ z0 k
      rw [eW] at pu1 fP lP aP
      generalize hzz : z0.getD k 0 = z at *
      obtain ⟨x, hx⟩ : ∃ x, z % 256 = x := ⟨_, rfl⟩
      have x3 : 0 ≤ x ∧ x < 256 := by omega
      obtain ⟨x3, x4⟩ := x3
      rw [hx] at pu1 fP lP aP PS
      have HX := Lib.hid hx
      replace PS := Lib.hid PS
      have FP := Lib.hid fP
      have LP := Lib.hid lP
      have AP := Lib.hid aP
      have D9 := sdo9 MT.out fT.ph fT.fr.is x 0 (by omega)
      rw [pu1] at D9
      replace D9 := Lib.hid D9
      clear xk ok mT fT hrc hwf lT aT pu1 pu2 pu3 fP lP aP eW hx hzz
      go_wp2_with (go_at_call 13; refine (Word.place _ _ _ (by omega) (by omega) (by omega) (by omega)).mono ?_; rintro e w' ⟨rfl, rfl⟩; rw [HX.out])
      refine D9.out.mono ?_
      rintro e w6 ⟨rfl, m6, k6⟩
      generalize T.push 26 (num (x - 128)) = T2 at *
      have ok' := OK.out.far k6 (fun j hj hF => by have := (OK.out.block hj).1; have := LTC.out j hF; omega)
      have pl := wants_len z0 k
      obtain ⟨A1, c1, hA1⟩ := ok'.form
      rw [pl] at hA1
      subst hA1
      have O2 : Hid (w6.ownsRow hc 3 1 (.slice A1 k c1) k ((wants z0 k).map (Value.int .i64))) := Lib.hid (by
        have q : w6.ownsRow hc 3 1 (.slice A1 k c1) (wants z0 k).length ((wants z0 k).map (Value.int .i64)) := ok'
        rw [pl] at q; exact q)
      have X6 : Hid (Ext w w6) := Lib.hid (Ext.of_below (Keep.below XK.out.below k6 XK.out.below.size (fun i hi h => by have := FL.out i h; omega)))
      have M6 := Lib.hid m6
      have h56 : hc ≤ w6.heap.size := Nat.le_trans hle k6.size
      obtain ⟨i0', hi0, hz0, hz1, hz2⟩ := info_parts infoInt
      clear m6 k6 ok' OK MT FT c0 D9 XK
      go_wp2_with (at_builtin; refine wpList_append_lies _ rfl _ _ _ rfl hc 3 i0' (.int .i64 0) 1 8 Tryz.underlying22 hi0 hz0 hz1 hz2 rfl (by decide) _ _ _ (by rfl) (World.ownsRow.alloc O2.out _) ⟨w6.heap.size, 0, none⟩ 1 1 [.int .i64 (x - 128)] (by rfl) (by rfl) (World.news_of_block (heap_alloc_new w6 _)) (by simp [Value.oneCell']) (by omega) (by unfold maxLen; omega) (by omega) (by simp; omega) (w6.heap.size + 1) (by simp) ?_; intro gg cc w7 o3 g3 hat hlt3)
      have kp : Keep (fun j => (Value.slice A1 k c1).ownBlock = some j) w6 w7 := ((Keep.refl _ w6).alloc _).trans ⟨g3.os, g3.tape, g3.output, g3.size, fun k hk hn => g3.block k hk (fun e => hn e.symm)⟩
      have far : ∀ j, (Value.slice A1 k c1).ownBlock = some j → hc ≤ j := fun j hj => by
        have q : OwnW w6 hc (.slice A1 k c1) (wants z0 k) := by
          show w6.ownsRow hc 3 1 _ (wants z0 k).length _
          rw [pl]; exact O2.out
        exact (q.block hj).1
      have X7 : Hid (Ext w w7) := Lib.hid (Ext.of_below (Keep.below X6.out.below kp X6.out.below.size (fun i hi h => by have := far i h; omega)))
      have M7 : Hid (M w7 F m T2) := Lib.hid (M6.out.far kp (fun j hj hF => by have := far j hj; have := LTC.out j hF; omega))
      have O7 : Hid (OwnW w7 hc (.slice (some ⟨gg, 0, none⟩) (k + 1) cc) (wants z0 (k + 1))) := Lib.hid (by
        show w7.ownsRow hc 3 1 _ (wants z0 (k + 1)).length _
        rw [PS.out, List.length_append, pl, List.map_append]; exact o3)
      have H7 : hc ≤ w7.heap.size := Nat.le_trans h56 kp.size
      clear o3 g3 hat kp far O2 M6 X6
      go_roundw
      case rel => exact ⟨k + 1, by omega, by omega, by go_num, O7.out, ⟨_, M7.out, FP.out, LP.out, AP.out⟩, X7.out, H7⟩
      case measure => simp [intOf]; omega
    · have ways : (k < len0 ∧ 12 ≤ k) ∨ len0 ≤ k := by omega
      have pl := wants_len z0 k
      obtain ⟨A1, c1, hA1⟩ := OK.out.form
      rw [pl] at hA1
      subst hA1
      obtain ⟨q, hq⟩ : ∃ q : Nat, a1 % ((k : Int) + 1) = (q : Int) := ⟨(a1 % ((k : Int) + 1)).toNat, by have := Int.emod_nonneg a1 (show (k : Int) + 1 ≠ 0 by omega); omega⟩
      have qk : q ≤ k := by have := Int.emod_lt_of_pos a1 (show (0 : Int) < (k : Int) + 1 by omega); omega
      have HQ := Lib.hid hq
      obtain ⟨p, hkp⟩ : ∃ p : Nat, k = p + q := ⟨k - q, by omega⟩
      have hp12 : p ≤ 12 := by omega
      have fT' : SP T (p + q) (wantF z0) := hkp ▸ fT
      obtain ⟨mk1, mk2, mk3⟩ := fT'.make lT aT q (by omega)
      have saq := aL_sa fT' lT aT (by omega) (wantF_may z0) q (Nat.le_refl _)
      have C21 := sdo21 MT.out fT'.ph 26 28 fT'.fr.is q (by omega) (by omega) (aL T q) mk1 mk2 rfl mk3.s28 (fun i hi => aL_step fT' lT aT (by omega) (wantF_may z0) i hi) saq.sp.ph
      rw [show p + (q - q) = p from by omega] at saq
      obtain ⟨po, sap⟩ := saq.pushed (by omega)
      rw [po] at C21
      replace C21 := Lib.hid C21
      have SAP := Lib.hid sap
      have NA : Hid (∀ j, (Value.slice A1 k c1).ownBlock = some j → hc ≤ j ∧ ¬ F j ∧ ∃ cs, Blk wr j 3 cs) := Lib.hid (fun j hj => ⟨(OK.out.block hj).1, fun hF => by have := (OK.out.block hj).1; have := LTC.out j hF; omega, (OK.out.block hj).2⟩)
      have hkq : IntKind.i64.wrap ((k : Int) - (q : Int)) = (p : Int) := by rw [IntWalk.i64_in _ (by omega)]; omega
      obtain ⟨tp, htp⟩ : ∃ t, t = 8 + p := ⟨_, rfl⟩
      have htk : IntKind.i64.wrap (8 + (k : Int) - (q : Int)) = (tp : Int) := by rw [IntWalk.i64_in _ (by omega)]; omega
      have AW := Lib.hid awake15
      have HLE := Lib.hid hle
      have HKP := Lib.hid hkp
      have HTP := Lib.hid htp
      clear hkp htp hlt hq xk ok mT fT fT' mk1 mk2 mk3 saq po sap lT aT FT MT hle
      generalize (aL T q q).push 26 (objV 28) = P at *
      rcases ways with ⟨wy1, wy2⟩ | wy1
      all_goals
        go_wp2_with (go_at_call 13; refine (Word.place _ _ _ (by omega) (by omega) (by omega) (by omega)).mono ?_; rintro e w' ⟨rfl, rfl⟩; rw [HQ.out])
        refine C21.out.mono ?_
        rintro e wD ⟨rfl, F2, mD, vD⟩
        have XD : Hid (Ext w wD) := Lib.hid (Ext.of_below (Keep.below XK.out.below vD.keep XK.out.below.size (fun i hi h => by have := FL.out i h; omega)))
        have OD := Lib.hid (OK.out.far vD.keep (fun j hj => (NA.out j hj).2.1))
        have FL2 : Hid (∀ k, F2 k → w.heap.size ≤ k) := Lib.hid (fun k hk => by
          rcases vD.new k hk with h | h
          · exact FL.out k h
          · have := XK.out.below.size; omega)
        have LT2 := Lib.hid mD.lt
        have CG := Lib.hid (fun W [x : IsExt wD W] => mget (mD.ext x.out) 26 (tp : Int))
        have g26 : P.get 26 (tp : Int) = objV 28 := by
          have q := SAP.out.sp.st p (by omega)
          rw [if_pos rfl] at q
          rw [← q, HTP.out]; rfl
        rw [g26] at CG
        unfold val objV at CG
        obtain ⟨hs1, hs2, hs3⟩ := SAP.out.len
        have CT := Lib.hid (fun W [x : IsExt wD W] => mthingF (mD.ext x.out) 28 hs1 hs2)
        rw [hs3] at CT
        have C28 : Hid (∀ W [x : IsExt wD W] (i : Nat), i < q → Calls Tryz.prog 24 #[.pointer (some ⟨m, 0, none⟩), .int .i64 28, .int .i64 i] W fun e w' => e = .returned (.agg #[.bool false, .int .i64 (wnt z0 (p + i))]) ∧ Ext W w') := Lib.hid (fun W x i hi => by
          have g := mget (mD.ext x.out) 28 i
          rw [SAP.out.g28 i hi, if_pos (by omega)] at g
          exact g)
        have MD := Lib.hid mD
        have iD : IsExt wD wD := ⟨Ext.refl _⟩
        have RR := Lib.hid (SAP.out.all (if_pos rfl) hp12)
        clear mD vD C21 XK OK FL g26 hs1 hs2 hs3 NA SAP
        go_wp2_with fail
        refine (CG.out _).mono ?_
        rintro e wE ⟨rfl, xE⟩
        have iE : IsExt wD wE := ⟨xE⟩
        clear xE CG iD
        go_upto_region 20 with (fail)
        refine wp_name (fun wF hW => ?_)
        have iF : IsExt wD wF := ⟨by rw [hW]; exact iE.out.alloc _⟩
        have B16 := Lib.hid (show Blk wF wE.heap.size 40 #[.bool true, .int .i64 28] from by rw [hW]; exact Blk.new _ _ _)
        have n16 : wD.heap.size ≤ wE.heap.size := iE.out.below.size
        obtain ⟨r1, r2, r3⟩ := B16.out.rules
        clear hW iE
        generalize wE.heap.size = g16 at *
        go_wp2_with fail
        refine (CT.out _).mono ?_
        rintro e wG ⟨vF, rfl, ow, xG⟩
        obtain ⟨AF, cF', hAF⟩ := ow.form
        subst hAF
        have iG : IsExt wD wG := ⟨iF.out.trans xG⟩
        replace B16 := Lib.hid (B16.out.ext xG)
        unfold tcells
        generalize (P.t 28).cls = tc at *
        generalize (P.t 28).fmt = tf at *
        generalize (P.t 28).hash = th at *
        generalize (P.t 28).fin = tn at *
        have FLD : ∀ W, Sem.run Tryz.prog (Instr.field 62 (.agg #[.int .i64 tc, .int .i64 tf, .int .i64 th, .bool tn, .slice AF q cF', .string ByteArray.empty]) 4) W = .ok (.slice AF q cF') W := fun W => by kernel_rfl
        clear ow xG CT iF r1 r2 r3
        go_wp2_with fail
        clear FLD
        go_loopw [17] (fun iv wr2 => ∃ i : Nat, i ≤ q ∧ iv = .int .i64 i ∧ Ext wG wr2) (fun iv _ => q - (intOf iv).toNat)
        case atStart => exact ⟨0, by omega, rfl, Ext.refl _⟩
        case round =>
          obtain ⟨i, hi, rfl, xr⟩ := hrel
          have ir : IsExt wD wr := ⟨iG.out.trans xr⟩
          obtain ⟨r1, r2, r3⟩ := (B16.out.ext xr).rules
          by_cases hiq : i < q
          · have iI : (i : Int) < (q : Int) := by omega
            have CJ := Lib.hid (C28.out wr i hiq)
            obtain ⟨pi, hpi⟩ : ∃ t, t = p + i := ⟨_, rfl⟩
            have hkp := HKP.out
            have hwr : IntKind.i64.wrap ((p : Int) + (i : Int)) = (pi : Int) := by rw [IntWalk.i64_in _ (by omega)]; omega
            have pk : pi < k := by omega
            have pI : (pi : Int) < (k : Int) := by omega
            rw [← hpi] at CJ
            have ow := OD.out
            clear hkp hpi
            go_wp2_with fail
            refine CJ.out.mono ?_
            rintro e wH ⟨rfl, xH⟩
            have iH : IsExt wD wH := ⟨ir.out.trans xH⟩
            have XrH : Ext wG wH := xr.trans xH
            clear xH CJ ir xr r1 r2 r3
            go_upto_region 26 with (fail)
            refine wp_name (fun wI hW => ?_)
            have xI : Ext wH wI := by rw [hW]; exact is_ext _ _
            obtain ⟨s1', s2, s3⟩ := (show Blk wI wH.heap.size 40 #[.bool false, .int .i64 (wnt z0 pi)] from by rw [hW]; exact Blk.new _ _ _).rules
            have oI := OD.out.ext (iH.out.trans xI)
            obtain ⟨gs, cs, es, _, _, hgs, cj, fz⟩ := oI.at_ pi (by rw [wants_len]; omega)
            rw [wants_at _ _ _ pk] at cj
            injection es with e1 e2 e3
            subst e1
            clear hW oI e2 e3
            refine wp_region_ext (by kernel_rfl) (by kernel_rfl) ?_
            repeat (go_big_quiet_step (fail))
            refine wpQuiet_nil ?_
            rintro W ⟨y, hWy⟩
            have xW : Hid (Ext wG W) := Lib.hid (XrH.trans (xI.trans ⟨y, hWy⟩))
            clear s1' s2 s3 cj fz xI hWy XrH iH
            go_wp2_with fail
            go_roundw
            case rel => exact ⟨i + 1, by omega, by go_num, xW.out⟩
            case measure => simp [intOf]; omega
          · obtain rfl : i = q := by omega
            have XR := Lib.hid (XD.out.trans ir.out)
            have BR := Lib.hid (B16.out.ext xr)
            have NF : Hid (¬ F2 g16) := Lib.hid (fun hF => by have := LT2.out _ hF; omega)
            have mR := MD.out.ext ir.out
            have R := RR.out
            obtain ⟨T1, eT1, q1, q2, q3, T2, eT2, q4, q5, q6, T3, eT3, q7, q8, q9, q10⟩ := R.b
            have D5 := sdo5 mR R.a1 R.a2 R.a3 R.a4 1 0 (by omega)
            rw [show (6 : Int) + 1 = 7 from rfl, R.a5, ← eT1] at D5
            replace D5 := Lib.hid D5
            clear hiq xr ir r1 r2 r3 mR R RR MD XD OD C28 B16 iG HQ
            go_wp2_with fail
            refine D5.out.mono ?_
            rintro e wa ⟨rfl, ma, ka⟩
            have Xa : Hid (Ext w wa) := Lib.hid (Ext.of_below (Keep.below XR.out.below ka XR.out.below.size (fun i hi h => by have := FL2.out i h; omega)))
            have Ba := Lib.hid (BR.out.keep ka NF.out)
            have D2 := sdo2 ma q1 q2 1 0 (by omega)
            rw [show (6 : Int) + 1 = 7 from rfl, q3, ← eT2] at D2
            replace D2 := Lib.hid D2
            clear ma ka D5 XR BR
            go_wp2_with fail
            refine D2.out.mono ?_
            rintro e wb ⟨rfl, mb, kb⟩
            have Xb : Hid (Ext w wb) := Lib.hid (Ext.of_below (Keep.below Xa.out.below kb Xa.out.below.size (fun i hi h => by have := FL2.out i h; omega)))
            have Bb := Lib.hid (Ba.out.keep kb NF.out)
            have D4 := sdo4 mb q4 q5 1 0
            rw [q6, ← eT3] at D4
            replace D4 := Lib.hid D4
            clear mb kb D2 Xa Ba
            go_wp2_with fail
            refine D4.out.mono ?_
            rintro e wc ⟨rfl, mc, kc⟩
            have Xc : Hid (Ext w wc) := Lib.hid (Ext.of_below (Keep.below Xb.out.below kc Xb.out.below.size (fun i hi h => by have := FL2.out i h; omega)))
            have Bc := Lib.hid (Bb.out.keep kc NF.out)
            have D3 := sdo3 mc q7 q8 0 0 (by omega)
            rw [q9] at D3
            have Q10 := Lib.hid q10
            clear mc kc D4 Xb Bb q1 q2 q3 q4 q5 q6 q7 q8 q9 q10 eT1 eT2 eT3
            by_cases p11 : p ≤ 11
            · rw [decide_eq_true p11] at D3
              obtain ⟨T4, eT4, u1, u2, u3, u4'⟩ := Q10.out p11
              rw [← eT4] at D3
              replace D3 := Lib.hid D3
              have U4 := Lib.hid u4'
              clear Q10 eT4 u4'
              go_wp2_with fail
              refine D3.out.mono ?_
              rintro e wd ⟨rfl, md, kd, _⟩
              have Xd : Hid (Ext w wd) := Lib.hid (Ext.of_below (Keep.below Xc.out.below kd Xc.out.below.size (fun i hi h => by have := FL2.out i h; omega)))
              have Bd := Lib.hid (Bc.out.keep kd NF.out)
              have D22 := sdo22 md u1 u2 0 0
              rw [u3] at D22
              clear md kd D3 Xc Bc u1 u2 u3
              by_cases p10 : p ≤ 10
              · rw [decide_eq_true p10] at D22
                obtain ⟨T5, eT5, v1, v2, v3, v4, v5, v6, v7, v8, v9, v10⟩ := U4.out p10
                rw [← eT5] at D22
                replace D22 := Lib.hid D22
                clear U4 eT5
                go_wp2_with fail
                refine D22.out.mono ?_
                rintro e wf ⟨rfl, mf, kf⟩
                have Xf : Hid (Ext w wf) := Lib.hid (Ext.of_below (Keep.below Xd.out.below kf Xd.out.below.size (fun i hi h => by have := FL2.out i h; omega)))
                have Bf := Lib.hid (Bd.out.keep kf NF.out)
                have CT2 := Lib.hid (fun W [x : IsExt wf W] => mthingF (mf.ext x.out) 26 v4 v5)
                rw [v6] at CT2
                have pln : T5.plOK 26 1 = false := by unfold MS.plOK; rw [v3]; rfl
                have CL3 : Hid (∀ W [x : IsExt wf W], Calls Tryz.prog 23 #[.pointer (some ⟨m, 0, none⟩), .int .i64 26, .agg #[.int .i64 3, .int .i64 1, .int .i64 0]] W fun e w' => e = .returned (.bool false) ∧ Ext W w') := Lib.hid (fun W x => by
                  have q := sdo3 (mf.ext x.out) v1 v2 1 0 (by omega)
                  rw [pln] at q
                  exact q.mono (fun e w' ⟨he, _, _, hx⟩ => ⟨he, hx v3⟩))
                have CL10 := Lib.hid (fun W [x : IsExt wf W] => sdo10_no (mf.ext x.out) v2 0)
                have CL11 := Lib.hid (fun W [x : IsExt wf W] => sdo11 (mf.ext x.out) v2 0 0)
                have iff : IsExt wf wf := ⟨Ext.refl _⟩
                obtain ⟨t1, ht1⟩ : ∃ t, t = tp + 1 := ⟨_, rfl⟩
                obtain ⟨t2, ht2⟩ : ∃ t, t = tp + 2 := ⟨_, rfl⟩
                obtain ⟨t3, ht3⟩ : ∃ t, t = tp + 3 := ⟨_, rfl⟩
                have htp := HTP.out
                have w1' : IntKind.i64.wrap ((tp : Int) + 1) = (t1 : Int) := by rw [IntWalk.i64_in _ (by omega)]; omega
                have w2' : IntKind.i64.wrap ((tp : Int) + 2) = (t2 : Int) := by rw [IntWalk.i64_in _ (by omega)]; omega
                have w3' : IntKind.i64.wrap ((tp : Int) + 3) = (t3 : Int) := by rw [IntWalk.i64_in _ (by omega)]; omega
                have b0 : tp < 22 := by omega
                have b1 : t1 < 22 := by omega
                have b2 : t2 < 22 := by omega
                have b3 : t3 < 22 := by omega
                have c0 : (tp : Int) < 22 := by omega
                have c1 : (t1 : Int) < 22 := by omega
                have c2 : (t2 : Int) < 22 := by omega
                have c3 : (t3 : Int) < 22 := by omega
                rw [show 8 + p = tp from htp.symm] at v7 v8 v9 v10
                rw [← ht1] at v8
                rw [← ht2] at v9
                rw [← ht3] at v10
                have V7 := Lib.hid v7
                have V8 := Lib.hid v8
                have V9 := Lib.hid v9
                have V10 := Lib.hid v10
                clear mf kf D22 Xd Bd v1 v2 v3 v4 v5 v6 v7 v8 v9 v10 pln ht1 ht2 ht3 htp
                go_wp2_with fail
                refine (CT2.out _).mono ?_
                rintro e wg ⟨vF2, rfl, ow, xg⟩
                obtain ⟨gF, cF2, rfl, cc1, cc2, hgF, hcell⟩ := ownV (by omega) ow
                have ig : IsExt wf wg := ⟨xg⟩
                obtain ⟨r1, r2, r3⟩ := (Bf.out.ext xg).rules
                have e01 := (hcell tp b0).2
                have e11 := (hcell t1 b1).2
                have e21 := (hcell t2 b2).2
                obtain ⟨e30, e31⟩ := hcell t3 b3
                rw [V7.out] at e01
                rw [V8.out] at e11
                rw [V9.out] at e21
                rw [V10.out] at e30 e31
                unfold tcells
                generalize (T5.t 26).cls = sc at *
                generalize (T5.t 26).fmt = sf at *
                generalize (T5.t 26).hash = sh at *
                generalize (T5.t 26).fin = sn at *
                have FLD2 : ∀ W, Sem.run Tryz.prog (Instr.field 62 (.agg #[.int .i64 sc, .int .i64 sf, .int .i64 sh, .bool sn, .slice (some ⟨gF, 0, none⟩) 22 cF2, .string ByteArray.empty]) 4) W = .ok (.slice (some ⟨gF, 0, none⟩) 22 cF2) W := fun W => by kernel_rfl
                replace e01 : wg.cell? ⟨gF, tp * 2 + 1, none⟩ = some (.int .i64 28) := e01
                replace e11 : wg.cell? ⟨gF, t1 * 2 + 1, none⟩ = some (.int .i64 4) := e11
                replace e21 : wg.cell? ⟨gF, t2 * 2 + 1, none⟩ = some (.int .i64 9) := e21
                replace e30 : wg.cell? ⟨gF, t3 * 2, none⟩ = some (.bool true) := e30
                replace e31 : wg.cell? ⟨gF, t3 * 2 + 1, none⟩ = some (.int .i64 26) := e31
                clear ow hcell xg CT2 V7 V8 V9 V10 iff Bf
                go_wp2_with fail
                have XG := Lib.hid (Xf.out.trans ig.out)
                clear Xf
                refine wp_region_ext (by kernel_rfl) (by kernel_rfl) ?_
                simp only [List.append]
                repeat (go_big_quiet_step ((first | (go_at_call 23; first | (with_reducible exact calls_ext (CL3.out _)) | (with_reducible exact calls_ext (CL10.out _)) | (with_reducible exact calls_ext (CL11.out _))) | (go_at_call 25; exact calls_ext (AW.out _)))))
                refine wpQuiet_nil ?_
                rintro W ⟨x', rfl⟩
                go_wp2
                go_ret
                exact ⟨rfl, (XG.out.trans ⟨_, rfl⟩).below⟩
              · rw [decide_eq_false p10] at D22
                replace D22 := Lib.hid D22
                clear U4
                have dgt : decide (10 < (p : Int)) = true := decide_eq_true (by omega)
                go_wp2_with fail
                refine D22.out.mono ?_
                rintro e wf ⟨rfl, mf, kf⟩
                have Xf : Hid (Ext w wf) := Lib.hid (Ext.of_below (Keep.below Xd.out.below kf Xd.out.below.size (fun i hi h => by have := FL2.out i h; omega)))
                clear mf kf D22 Xd Bd
                go_wp2_with fail
                refine (AW.out _).mono ?_
                rintro e wz ⟨rfl, xz⟩
                have XZ := Lib.hid (Xf.out.trans xz)
                clear xz
                go_wp2_with fail
                go_ret
                exact ⟨rfl, XZ.out.below⟩
            · rw [decide_eq_false p11] at D3
              replace D3 := Lib.hid D3
              clear Q10
              have dgt : decide (10 < (p : Int)) = true := decide_eq_true (by omega)
              go_wp2_with fail
              refine D3.out.mono ?_
              rintro e wd ⟨rfl, md, kd, _⟩
              have Xd : Hid (Ext w wd) := Lib.hid (Ext.of_below (Keep.below Xc.out.below kd Xc.out.below.size (fun i hi h => by have := FL2.out i h; omega)))
              clear md kd D3 Xc Bc
              go_wp2_with fail
              refine (AW.out _).mono ?_
              rintro e wz ⟨rfl, xz⟩
              have XZ := Lib.hid (Xd.out.trans xz)
              clear xz
              go_wp2_with fail
              go_ret
              exact ⟨rfl, XZ.out.below⟩
end Go.Proofs.YtnhijjcplnomgaaGreat.World
