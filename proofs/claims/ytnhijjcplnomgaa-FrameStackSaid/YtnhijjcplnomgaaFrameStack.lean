/-
  The walk of the law FrameStack.
-/
import Derived.Test.YtnhijjcplnomgaaStackPlain
import Derived.Test.YtnhijjcplnomgaaIRow
import Derived.Test.YtnhijjcplnomgaaWord
import Derived.Deep.AppendLies
namespace Go.Proofs.Ytnhijjcplnomgaa.World
open Go.RowKit Go.Proofs.Ytnhijjcplnomgaa.Plain
set_option linter.unusedVariables false
attribute [local go_sem ↓] Go.wp_at_zero Go.wp_at_succ
/-- a slice of numbers of the call's own -/
def OwnN (w : World) (base : Nat) (v : Value) (zs : List Int) : Prop := w.ownsRow base 3 1 v zs.length (zs.map (Value.int .i64))
theorem OwnN.block {w : World} {base j : Nat} {v : Value} {zs : List Int} (h : OwnN w base v zs) (hj : v.ownBlock = some j) : base ≤ j ∧ ∃ cs, Blk w j 3 cs := by
  have h : w.ownsRow base 3 1 v zs.length (zs.map (Value.int .i64)) := h
  rcases h.2 with ⟨rfl, h0⟩ | ⟨g, cap, cur, rfl, hb, hg, _⟩
  · simp [Value.ownBlock] at hj
  · simp [Value.ownBlock] at hj
    subst hj
    exact ⟨hb, cur, hg⟩
theorem OwnN.far {w w' : World} {base : Nat} {v : Value} {zs : List Int} {P : Nat → Prop} (h : OwnN w base v zs) (k : Keep P w w') (hn : ∀ j, v.ownBlock = some j → ¬ P j) : OwnN w' base v zs := by
  have h : w.ownsRow base 3 1 v zs.length (zs.map (Value.int .i64)) := h
  refine ⟨h.1, ?_⟩
  rcases h.2 with hh | ⟨g, cap, cur, e1, h1, hg, rest⟩
  · exact .inl hh
  · exact .inr ⟨g, cap, cur, e1, h1, Blk.keep (show Blk w g 3 cur from hg) k (hn g (by rw [e1]; rfl)), rest⟩
theorem OwnN.ext {w w' : World} {base : Nat} {v : Value} {zs : List Int} (h : OwnN w base v zs) (x : Ext w w') : OwnN w' base v zs := h.far (P := fun _ => False) (Keep.of_ext x _) (fun _ _ hf => hf)
theorem OwnN.form {w : World} {base : Nat} {v : Value} {zs : List Int} (h : OwnN w base v zs) : ∃ A c, v = .slice A zs.length c := by
  have h : w.ownsRow base 3 1 v zs.length (zs.map (Value.int .i64)) := h
  rcases h.2 with ⟨rfl, h0⟩ | ⟨g, cap, cur, rfl, hb, hg, _⟩
  · exact ⟨none, 0, by rw [h0]⟩
  · exact ⟨_, _, rfl⟩
theorem OwnN.at_ {w : World} {base : Nat} {v : Value} {zs : List Int} (h : OwnN w base v zs) (i : Nat) (hi : i < zs.length) : ∃ g c, v = .slice (some ⟨g, 0, none⟩) zs.length c ∧ zs.length ≤ c ∧ c ≤ 9223372036854775807 ∧ g < w.heap.size ∧ w.cell? ⟨g, i, none⟩ = some (.int .i64 (zs.getD i 0)) ∧ ∀ j, w.frozen? ⟨g, j, none⟩ = false := by
  have h : w.ownsRow base 3 1 v zs.length (zs.map (Value.int .i64)) := h
  rcases h.2 with ⟨rfl, h0⟩ | ⟨g, cap, cur, rfl, hb, hg, hn, hcap, hsz, ht⟩
  · omega
  · have hB : Blk w g 3 cur := hg
    unfold maxLen at hcap
    refine ⟨g, cap, rfl, hn, by omega, hB.lt, ?_, hB.frozen⟩
    rw [hB.cell, ← Array.getElem?_toList]
    have e1 : (zs.map (Value.int .i64))[i]? = some (.int .i64 (zs.getD i 0)) := by
      rw [List.getElem?_map, List.getElem?_eq_getElem hi, List.getD_eq_getElem?_getD, List.getElem?_eq_getElem hi]; rfl
    rw [← ht, List.getElem?_take_of_lt (by omega)] at e1
    exact e1
theorem infoInt : (Try.prog.info? 3).map (fun i => (i.zero, i.size, i.bytes)) = some (some (.int .i64 0), 1, 8) := by kernel_rfl
def pushed (zs : List Int) (k : Nat) : List Int := (zs.take k).map (· % 1000)
theorem pushed_len (zs : List Int) (k : Nat) (h : k ≤ zs.length) : (pushed zs k).length = k := by unfold pushed; simp; omega
theorem pushed_succ (zs : List Int) (k : Nat) (h : k < zs.length) : pushed zs (k + 1) = pushed zs k ++ [zs.getD k 0 % 1000] := by
  unfold pushed
  rw [List.take_succ_eq_append_getElem h, List.map_append]
  simp [List.getD, h]
theorem pushed_at (zs : List Int) (k j : Nat) (h : k ≤ zs.length) (hj : j < k) : (pushed zs k).getD j 0 = zs.getD j 0 % 1000 := by
  unfold pushed
  rw [List.getD_eq_getElem?_getD, List.getElem?_map, List.getElem?_take_of_lt hj, List.getD_eq_getElem?_getD, List.getElem?_eq_getElem (by omega)]; rfl
theorem OwnN.nil (w : World) (base : Nat) : OwnN w base (.slice none 0 0) [] := World.ownsRow_nil _ _ _ _
set_option maxRecDepth 100000 in
set_option maxHeartbeats 1000000 in
theorem frameStack (a0 : Option Addr) (len0 cap0 : Nat) (z0 : List Int) (a1 : Int) (w : World) (w0 : IRow .i64 w a0 len0 cap0 z0) (w1 : (Lit.int .i64 a1).wf = true) :
    Calls Try.prog 4 #[.slice a0 len0 cap0, .int .i64 a1] w fun e w' => e = .returned (.bool true) ∧ Below w.heap.size w w' := by
  obtain ⟨x1, x2⟩ := bounds_i64 w1
  obtain ⟨hr, hz, hl⟩ := w0.reads
  have HR := Lib.hid hr
  clear hr w0 w1
  obtain ⟨t, ht⟩ : ∃ t : Nat, (t : Int) = a1 % 9 := ⟨(a1 % 9).toNat, by omega⟩
  have ht8 : t ≤ 8 := by omega
  have HT := Lib.hid ht
  have HF := Lib.hid (@first_ w)
  clear ht
  go_enter Try.func4, Try.ntmps4
  go_wp2_with fail
  refine HF.out.mono ?_
  clear HF
  rintro e w1 ⟨x, rfl, b1, x1'⟩
  obtain ⟨vL, fs, vD, vRe, vWa, vDu, vSn⟩ := x
  obtain ⟨y1, y2, y3, y4, y5⟩ := b1.bare
  simp only at y1 y2 y3 y4 y5
  subst y1 y2 y3 y4 y5
  obtain ⟨A, cp, hA⟩ := b1.L.form
  have hA : vL = .slice A 23 cp := hA
  subst hA
  unfold cellsW firstW regs0
  go_wp2_with fail
  refine calls_name (fun w2 hW => ?_)
  have xb : Ext w1 w2 := by rw [hW]; exact is_ext _ _
  have B2 : BAt w2 w.heap.size w1.heap.size firstW ⟨.slice A 23 cp, fs, .slice none 0 0, .slice none 0 0, .slice none 0 0, .slice none 0 0, .slice none 0 0⟩ := ⟨by rw [hW]; exact Blk.new _ _ _, b1.ext xb⟩
  have X2 := Lib.hid (x1'.trans xb)
  have BH := Lib.hid B2
  have s1 := x1'.below.size
  clear hW B2 b1 x1' xb
  generalize hb : w1.heap.size = b at *
  have CM := bmeth BH.out X2.out.below.size 0 0 0 (by decide) (by decide)
  rw [show ((firstW.L.length + 1 : Nat) : Int) = 24 from rfl] at CM
  refine CM.mono ?_
  clear CM
  rintro e w3 ⟨rfl, ⟨x3, h3⟩, k3⟩
  have X3 : Hid (Ext w w3) := Lib.hid (Ext.of_below (Keep.below X2.out.below k3 X2.out.below.size (fun i hi h => by omega)))
  have H3 := Lib.hid h3
  obtain ⟨p1, p2, p3⟩ := h3.blk.rules
  have CN := Lib.hid (objnew (W := W14 0) (h3.bu.at_ (nums_of_check (w14_check 0 (.inl rfl)))) (w14_check 0 (.inl rfl)) rfl 5)
  unfold cellsW at p1
  unfold cellsW at CN
  unfold W14 at CN
  clear h3 k3 BH X2
  generalize hW0 : firstW.meth 0 0 0 = W0 at *
  go_wp2_with fail
  refine CN.out.mono ?_
  rintro e w4 ⟨m, F, rfl, m4, hF, x4⟩
  have X4 := Lib.hid (X3.out.trans x4)
  obtain ⟨S, hS⟩ : ∃ S, S = newS (firstW.meth 0 0 0) 5 := ⟨_, rfl⟩
  have HS : S14 S := by rw [hS]; exact s14 0 (.inl rfl)
  rw [← hW0, ← hS] at m4
  have FL : Hid (∀ k, F k → w.heap.size ≤ k) := Lib.hid (fun k hk => by have := hF k hk; have := X3.out.below.size; omega)
  have st := HS.std
  have hl' := HS.last
  have hlen := HS.len
  have hme := HS.meth
  have CW := Lib.hid (fnew14 m4 st (by omega) (sender := 0) (meth := 24) (block := 0) (self := num 5) (pc := 0) (temps := t) st.has0 hme st.has0 (MS.fits_small (n := 5) (by omega)) (by omega) (by omega))
  rw [hlen] at CW
  have N := st.newFr (by omega) (sender := 0) (pc := 0) (temps := t) (meth := 24) (block := 0) (self := num 5) st.has0 (.inl rfl) (by omega) (by omega) hme (MS.fits_small (n := 5) (by omega)) (.inl rfl)
  have fs0 := fs_new st ht8 N rfl (fun j h1 h2 => by unfold MS.frameF; rw [if_neg (by omega), if_neg (by omega), if_neg (by omega), if_neg (by omega), if_neg (by omega), if_neg (by omega)])
  rw [hlen] at fs0
  have h25 : ((25 : Nat) : Int) = 25 := rfl
  rw [h25] at fs0 CW
  have FS0 := Lib.hid fs0
  generalize S.frameN 0 0 t 24 (num 5) 0 = S1 at *
  clear hF m4 x4 HS st hl' hlen hme N h25 hS CN p1 p2 p3 H3 fs0
  unfold val num at CW
  have pl := fun w h1 h2 => Word.place a1 9 w (by omega) (by omega) h1 h2
  go_wp2_with (go_at_call 5; refine (Word.place _ _ _ (by omega) (by omega) (by omega) (by omega)).mono ?_; rintro e w' ⟨rfl, rfl⟩)
  rw [← HT.out]
  refine CW.out.mono ?_
  rintro e w5 ⟨rfl, F1, m5, v5⟩
  have FL1 : Hid (∀ k, F1 k → w.heap.size ≤ k) := Lib.hid (fun k hk => by
    rcases v5.new k hk with h | h
    · exact FL.out k h
    · have := X4.out.below.size; omega)
  have X5 : Hid (Ext w w5) := Lib.hid (Ext.of_below (Keep.below X4.out.below v5.keep X4.out.below.size (fun i hi h => by have := FL.out i h; omega)))
  have M5 := Lib.hid m5
  have LT5 := Lib.hid m5.lt
  clear m5 v5 CW FL X4 X3 pl
  obtain ⟨n, hn⟩ : ∃ n, n = min len0 20 := ⟨_, rfl⟩
  have n1 : n ≤ len0 := by omega
  have n2 : n ≤ 20 := by omega
  have hn1 : (if (20 : Int) < (len0 : Int) then (20 : Int) else (len0 : Int)) = (n : Int) := by split <;> omega
  have hn2 : (if 20 < len0 then (20 : Int) else (len0 : Int)) = (n : Int) := by split <;> omega
  have hn3 : (if (len0 : Int) < 20 then (len0 : Int) else (20 : Int)) = (n : Int) := by split <;> omega
  have h5le : w.heap.size ≤ w5.heap.size := X5.out.below.size
  generalize hh5 : w5.heap.size = h5 at *
  clear hn
  go_wp2_with fail
  go_loopw [13, 14] (fun v iv wr => ∃ k : Nat, k ≤ n ∧ iv = .int .i64 k ∧ OwnN wr h5 v (pushed z0 (min k (16 - t))) ∧ (∃ S, M wr F1 m S ∧ FS S 25 t (pushed z0 (min k (16 - t)))) ∧ Ext w wr ∧ h5 ≤ wr.heap.size) (fun v iv _ => n - (intOf iv).toNat)
  case atStart => exact ⟨0, by omega, rfl, by rw [Nat.zero_min]; exact OwnN.nil _ _, ⟨_, M5.out, by rw [Nat.zero_min]; exact FS0.out⟩, X5.out, by omega⟩
  case round =>
    obtain ⟨k, hk, rfl, ok, ⟨T, mT, fT⟩, xk, hle⟩ := hrel
    clear M5 FS0 X5 hn1 hn2 hn3
    have XK := Lib.hid xk
    have OK := Lib.hid ok
    have MT := Lib.hid mT
    have FT := Lib.hid fT
    have i0 : IsExt wr wr := ⟨Ext.refl _⟩
    by_cases hlt : k < n
    · have iI : (k : Int) < (n : Int) := by omega
      have iL : (k : Int) < (len0 : Int) := by omega
      obtain ⟨rb, roff, rfl, hrb, hrc, hwf⟩ := HR.out k (by omega)
      have c0 := (xk.below.cell (p := ⟨rb, roff + k, none⟩) hrb).trans hrc
      obtain ⟨z1, z2⟩ := bounds_i64 hwf
      have hrb2 : rb < wr.heap.size := by have := xk.below.size; omega
      have PS := Lib.hid (pushed_succ z0 k (by omega))
      generalize hzz : z0.getD k 0 = z at *
      clear xk ok mT fT hrc hwf
      by_cases hK : k < 16 - t
      · have dK : decide ((k : Int) < 16 - (t : Int)) = true := decide_eq_true (by omega)
        have fT := FT.out
        rw [show min k (16 - t) = k from by omega] at fT
        obtain ⟨hpu, fT2⟩ := fT.push (v := z % 1000) (by rw [pushed_len _ _ (by omega)]; omega) (by omega)
        rw [← PS.out] at fT2
        have CP := Lib.hid (hpu ▸ fpush MT.out (by rw [fT.ph]; decide) 25 (num (z % 1000)))
        have F2 := Lib.hid fT2
        unfold val num at CP
        clear fT fT2 hpu
        go_wp2_with (go_at_call 5; refine (Word.place _ _ _ (by omega) (by omega) (by omega) (by omega)).mono ?_; rintro e w' ⟨rfl, rfl⟩)
        refine CP.out.mono ?_
        rintro e w6 ⟨rfl, m6, k6⟩
        have ok' := OK.out.far k6 (fun j hj hF => by have := (OK.out.block hj).1; have := LT5.out j hF; omega)
        rw [show min k (16 - t) = k from by omega] at ok'
        have pl := pushed_len z0 k (by omega)
        obtain ⟨A1, c1, hA1⟩ := ok'.form
        rw [pl] at hA1
        subst hA1
        have O2 : Hid (w6.ownsRow h5 3 1 (.slice A1 k c1) k ((pushed z0 k).map (Value.int .i64))) := Lib.hid (by
          have q : w6.ownsRow h5 3 1 (.slice A1 k c1) (pushed z0 k).length ((pushed z0 k).map (Value.int .i64)) := ok'
          rw [pl] at q; exact q)
        have X6 : Hid (Ext w w6) := Lib.hid (Ext.of_below (Keep.below XK.out.below k6 XK.out.below.size (fun i hi h => by have := FL1.out i h; omega)))
        have M6 := Lib.hid m6
        have h56 : h5 ≤ w6.heap.size := Nat.le_trans hle k6.size
        obtain ⟨i0', hi0, hz0, hz1, hz2⟩ := info_parts infoInt
        clear m6 k6 ok' OK MT FT c0 CP XK i0
        go_wp2_with (at_builtin; refine wpList_append_lies _ rfl _ _ _ rfl h5 3 i0' (.int .i64 0) 1 8 Try.underlying26 hi0 hz0 hz1 hz2 rfl (by decide) _ _ _ (by rfl) (World.ownsRow.alloc O2.out _) ⟨w6.heap.size, 0, none⟩ 1 1 [.int .i64 (z % 1000)] (by rfl) (by rfl) (World.news_of_block (heap_alloc_new w6 _)) (by simp [Value.oneCell']) (by omega) (by unfold maxLen; omega) (by omega) (by simp; omega) (w6.heap.size + 1) (by simp) ?_; intro gg cc w7 o3 g3 hat hlt3)
        have kp : Keep (fun j => (Value.slice A1 k c1).ownBlock = some j) w6 w7 := ((Keep.refl _ w6).alloc _).trans ⟨g3.os, g3.tape, g3.output, g3.size, fun k hk hn => g3.block k hk (fun e => hn e.symm)⟩
        have far : ∀ j, (Value.slice A1 k c1).ownBlock = some j → h5 ≤ j := fun j hj => by
          have q : OwnN w6 h5 (.slice A1 k c1) (pushed z0 k) := by
            show w6.ownsRow h5 3 1 _ (pushed z0 k).length _
            rw [pl]; exact O2.out
          exact (q.block hj).1
        have X7 : Hid (Ext w w7) := Lib.hid (Ext.of_below (Keep.below X6.out.below kp X6.out.below.size (fun i hi h => by have := far i h; omega)))
        have M7 : Hid (M w7 F1 m (T.push 25 (num (z % 1000)))) := Lib.hid (M6.out.far kp (fun j hj hF => by have := far j hj; have := LT5.out j hF; omega))
        have O7 : Hid (OwnN w7 h5 (.slice (some ⟨gg, 0, none⟩) (k + 1) cc) (pushed z0 (k + 1))) := Lib.hid (by
          show w7.ownsRow h5 3 1 _ (pushed z0 (k + 1)).length _
          rw [PS.out, List.length_append, pl, List.map_append]; exact o3)
        have H7 : h5 ≤ w7.heap.size := Nat.le_trans h56 kp.size
        clear o3 g3 hat kp far O2 M6 X6
        go_roundw
        case rel => exact ⟨k + 1, by omega, by go_num, by rw [show min (k + 1) (16 - t) = k + 1 from by omega]; exact O7.out, ⟨_, M7.out, by rw [show min (k + 1) (16 - t) = k + 1 from by omega]; exact F2.out⟩, X7.out, H7⟩
        case measure => simp [intOf]; omega
      · have dK : decide ((k : Int) < 16 - (t : Int)) = false := decide_eq_false (by omega)
        have fT := FT.out
        obtain ⟨hpu, hps⟩ := fT.full (v := z % 1000) (by rw [pushed_len _ _ (by omega)]; omega)
        have CP := fpush MT.out (by rw [fT.ph]; decide) 25 (num (z % 1000))
        rw [hpu, hps] at CP
        replace CP := Lib.hid CP
        unfold val num at CP
        clear fT hpu hps
        go_wp2_with (go_at_call 5; refine (Word.place _ _ _ (by omega) (by omega) (by omega) (by omega)).mono ?_; rintro e w' ⟨rfl, rfl⟩)
        refine CP.out.mono ?_
        rintro e w6 ⟨rfl, m6, k6⟩
        have O6 := Lib.hid (OK.out.far k6 (fun j hj hF => by have := (OK.out.block hj).1; have := LT5.out j hF; omega))
        have X6 : Hid (Ext w w6) := Lib.hid (Ext.of_below (Keep.below XK.out.below k6 XK.out.below.size (fun i hi h => by have := FL1.out i h; omega)))
        have M6 := Lib.hid m6
        have H6 : h5 ≤ w6.heap.size := Nat.le_trans hle k6.size
        clear m6 k6 OK MT c0 CP XK i0
        go_wp2_with fail
        go_roundw
        case rel => exact ⟨k + 1, by omega, by go_num, by rw [show min (k + 1) (16 - t) = min k (16 - t) from by omega]; exact O6.out, ⟨_, M6.out, by rw [show min (k + 1) (16 - t) = min k (16 - t) from by omega]; exact FT.out⟩, X6.out, H6⟩
        case measure => simp [intOf]; omega
    · obtain rfl : k = n := by omega
      obtain ⟨p, hp⟩ : ∃ p, p = min k (16 - t) := ⟨_, rfl⟩
      rw [← hp] at OK FT
      have hp1 : p ≤ len0 := by omega
      have hp2 : t + p ≤ 16 := by omega
      have pl := pushed_len z0 p (by omega)
      obtain ⟨A1, c1, hA1⟩ := OK.out.form
      rw [pl] at hA1
      subst hA1
      clear hp xk ok mT fT i0 hlt
      have HLE := Lib.hid hle
      go_wp2_with fail
      go_loopw [16] (fun iv wr => ∃ j : Nat, j ≤ p ∧ iv = .int .i64 ((j : Int) - 1) ∧ OwnN wr h5 (.slice A1 p c1) (pushed z0 p) ∧ (∃ S, M wr F1 m S ∧ FS S 25 t (pushed z0 j)) ∧ Ext w wr ∧ h5 ≤ wr.heap.size) (fun iv _ => (intOf iv + 1).toNat)
      case atStart => exact ⟨p, Nat.le_refl _, rfl, OK.out, ⟨_, MT.out, FT.out⟩, XK.out, HLE.out⟩
      case round =>
        clear OK MT FT XK HLE hle T
        obtain ⟨j, hj, rfl, ok, ⟨T, mT, fT⟩, xk, hle⟩ := hrel
        rcases j with _ | j
        · have e0 : (((0 : Nat) : Int) - 1) = -1 := rfl
          rw [e0]
          have CT := Lib.hid (fun W [x : IsExt wr W] => ftemp (r := some 25) (mT.ext x.out) (id := 25) (out := 0) (.inl ⟨0, rfl, by omega, fT.fr.is, rfl⟩) 15 (by omega))
          have CG := Lib.hid (fun W [x : IsExt wr W] => mget (mT.ext x.out) 25 2)
          have tv : tempV T (some 25) 15 = objV 0 := by
            have q := fT.rest 15 (by rw [pushed_len _ _ (by omega)]; omega) (by omega)
            exact q
          have g2 : T.get 25 2 = num t := by
            obtain ⟨a, b, c⟩ := MS.isFrame_sp fT.fr.is
            have q := fT.sp
            rw [pushed_len _ _ (by omega)] at q
            have q : (T.get 25 2).n = (t : Int) + ((0 : Nat) : Int) := q
            obtain ⟨o, n'⟩ : ∃ v, v = T.get 25 2 := ⟨_, rfl⟩
            rw [← n'] at a q ⊢
            cases o with
            | mk oo on =>
              have a : oo = false := a
              have q : on = (t : Int) + ((0 : Nat) : Int) := q
              rw [a, q]
              simp [num]
          rw [tv, show tempOK (some 25) 15 = true from rfl] at CT
          rw [g2] at CG
          unfold val objV at CT
          unfold val num at CG
          have XK := Lib.hid xk
          have AW := Lib.hid awake14
          clear tv g2 mT fT xk ok
          go_wp2_with fail
          refine (CT.out _).mono ?_
          rintro e wA ⟨rfl, xA⟩
          have iA : IsExt wr wA := ⟨xA⟩
          clear xA CT
          go_upto_region 29 with (fail)
          refine wp_name (fun wB hB => ?_)
          have iB : IsExt wr wB := ⟨by rw [hB]; exact is_ext _ _⟩
          obtain ⟨r1, r2, r3⟩ := (show Blk wB wA.heap.size 40 #[.bool true, .int .i64 0] from by rw [hB]; exact Blk.new _ _ _).rules
          clear hB iA
          have gf : ∀ W, (Instr.field 40 (.agg #[.bool false, .int .i64 t]) 1).run Try.prog W = .ok (.int .i64 t) W := fun W => field_n _ _ _
          go_wp2_with (first | (go_at_call 22; refine (CG.out _).mono ?_; rintro e wC ⟨rfl, xC⟩; have iC : IsExt wr wC := ⟨iB.out.trans xC⟩; clear xC r1 r2 r3) | (go_at_call 18; refine (AW.out _).mono ?_; rintro e wD ⟨rfl, xD⟩; have iD : IsExt wr wD := ⟨iC.out.trans xD⟩; clear xD))
          go_ret
          exact ⟨rfl, (XK.out.trans iD.out).below⟩
        · rw [show (((j + 1 : Nat) : Int) - 1) = (j : Int) from by omega]
          have pj := pushed_len z0 (j + 1) (by omega)
          obtain ⟨v, hv⟩ : ∃ v, v = z0.getD j 0 % 1000 := ⟨_, rfl⟩
          obtain ⟨lo, hlo⟩ : ∃ v, v = z0.getD 0 0 % 1000 := ⟨_, rfl⟩
          have t0 : T.topOK 25 0 = true ∧ T.topV 25 0 = num v := by
            have q := fT.top 0 (by omega)
            refine ⟨q.1, q.2.trans ?_⟩
            rw [pj, pushed_at _ _ _ (by omega) (by omega), hv]
            congr 2
          have t1 : T.topOK 25 j = true ∧ T.topV 25 j = num lo := by
            have q := fT.top j (by omega)
            refine ⟨q.1, q.2.trans ?_⟩
            rw [pj, pushed_at _ _ _ (by omega) (by omega), hlo, show j + 1 - 1 - j = 0 from by omega]
          rw [pushed_succ z0 j (by omega), ← hv] at fT
          obtain ⟨q1, q2, q3⟩ := fT.pop
          have C0 := Lib.hid (fun W [x : IsExt wr W] => ftop (mT.ext x.out) 25 0)
          have C1 := Lib.hid (fun W [x : IsExt wr W] => ftop (mT.ext x.out) 25 j)
          have CP := Lib.hid (fun W [x : IsExt wr W] => fpop (mT.ext x.out) (by rw [fT.ph]; decide) 25 q1)
          rw [t0.1, t0.2] at C0
          rw [t1.1, t1.2] at C1
          rw [q2] at CP
          unfold val num at C0 C1 CP
          have XK := Lib.hid xk
          have OK := Lib.hid ok
          have F3 := Lib.hid q3
          have HV := Lib.hid hv
          have HL := Lib.hid hlo
          have jI : (j : Int) < (p : Int) := by omega
          have j0 : (0 : Int) ≤ (j : Int) := by omega
          have p0 : (0 : Int) < (p : Int) := by omega
          clear t0 t1 q1 q2 q3 mT fT xk ok hv hlo pl pj
          go_wp2_with fail
          refine (C0.out _).mono ?_
          rintro e wA ⟨rfl, xA⟩
          have iA : IsExt wr wA := ⟨xA⟩
          clear xA C0
          go_wp2_with fail
          refine calls_name (fun wB hB => ?_)
          have iB : IsExt wr wB := ⟨by rw [hB]; exact is_ext _ _⟩
          have B17 := Lib.hid (show Blk wB wA.heap.size 40 #[.bool false, .int .i64 v] from by rw [hB]; exact Blk.new _ _ _)
          have n17 : h5 ≤ wA.heap.size := Nat.le_trans hle iA.out.below.size
          clear hB iA
          generalize wA.heap.size = g17 at *
          refine (C1.out _).mono ?_
          rintro e wC ⟨rfl, xC⟩
          have iC : IsExt wr wC := ⟨iB.out.trans xC⟩
          replace B17 := Lib.hid (B17.out.ext xC)
          clear xC C1 iB
          go_wp2_with fail
          refine calls_name (fun wD hD => ?_)
          have iD : IsExt wr wD := ⟨by rw [hD]; exact is_ext _ _⟩
          have B19 := Lib.hid (show Blk wD wC.heap.size 40 #[.bool false, .int .i64 lo] from by rw [hD]; exact Blk.new _ _ _)
          replace B17 := Lib.hid (show Blk wD g17 40 #[.bool false, .int .i64 v] from by rw [hD]; exact B17.out.alloc _)
          have n19 : h5 ≤ wC.heap.size := Nat.le_trans hle iC.out.below.size
          have d1 : g17 < wC.heap.size ∨ wC.heap.size ≤ g17 := by omega
          clear hD iC
          generalize wC.heap.size = g19 at *
          refine (CP.out _).mono ?_
          rintro e wE ⟨rfl, mE, kE⟩
          have nF : ∀ g, h5 ≤ g → ¬ F1 g := fun g hg hF => by have := LT5.out g hF; omega
          replace B17 := Lib.hid (B17.out.keep kE (nF _ n17))
          replace B19 := Lib.hid (B19.out.keep kE (nF _ n19))
          have OE := Lib.hid ((OK.out.ext iD.out).far kE (fun g hg => nF g (OK.out.block hg).1))
          have XE := Lib.hid (XK.out.trans iD.out)
          have X5 : Hid (Ext w wE) := Lib.hid (Ext.of_below (Keep.below XE.out.below kE XE.out.below.size (fun i hi h => by have := FL1.out i h; omega)))
          have hE : h5 ≤ wE.heap.size := Nat.le_trans (Nat.le_trans hle iD.out.below.size) kE.size
          have ME := Lib.hid mE
          clear mE kE CP OK XK XE iD d1 hle
          go_upto_region 26 with (fail)
          refine wp_name (fun wG hG => ?_)
          have xG : Ext wE wG := by rw [hG]; exact is_ext _ _
          obtain ⟨r1, r2, r3⟩ := (show Blk wG wE.heap.size 40 #[.bool false, .int .i64 v] from by rw [hG]; exact Blk.new _ _ _).rules
          obtain ⟨s1', s2, s3⟩ := (B17.out.ext xG).rules
          obtain ⟨u1, u2, u3⟩ := (B19.out.ext xG).rules
          have OG := OE.out.ext xG
          obtain ⟨gs, cs, es, _, _, hgs, cj, _⟩ := OG.at_ j (by rw [pushed_len _ _ (by omega)]; omega)
          obtain ⟨gs', cs', es', _, _, _, cz, _⟩ := OG.at_ 0 (by rw [pushed_len _ _ (by omega)]; omega)
          rw [pushed_at _ _ _ (by omega) (by omega), ← HV.out] at cj
          rw [pushed_at _ _ _ (by omega) (by omega), ← HL.out] at cz
          injection es with e1 e2 e3
          injection es' with e1' e2' e3'
          have e9 := e1.symm.trans e1'
          injection e9 with e9
          injection e9 with e9
          subst e9
          subst e1
          clear e2 e3 e1' e2' e3' hG
          have ltG := OG.at_ j (by rw [pushed_len _ _ (by omega)]; omega)
          clear ltG OG hgs
          refine wp_region_ext (by kernel_rfl) (by kernel_rfl) ?_
          repeat (go_big_quiet_step (fail))
          refine wpQuiet_nil ?_
          rintro W ⟨y, hWy⟩
          have xW : Ext wE W := xG.trans ⟨y, hWy⟩
          have MW := Lib.hid (ME.out.ext xW)
          have OW := Lib.hid (OE.out.ext xW)
          have XW := Lib.hid (X5.out.trans xW)
          have HW : h5 ≤ W.heap.size := Nat.le_trans hE xW.below.size
          clear r1 r2 r3 s1' s2 s3 u1 u2 u3 cj cz xG hWy xW ME OE X5 B17 B19
          go_wp2_with fail
          go_roundw
          case rel => exact ⟨j, by omega, by go_num, OW.out, ⟨_, MW.out, F3.out⟩, XW.out, HW⟩
          case measure => simp [intOf]
end Go.Proofs.Ytnhijjcplnomgaa.World
