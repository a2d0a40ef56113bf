/-
  SetByte, ByteOps, PrimAt, PrimSet, PrimOp2, as one text (a claim has at most 60 files).
-/
import Derived.Test.YtnhijjcplnomgaaGreatThing
import Derived.Laws.IdiomStrings
import Derived.Laws.BitsLemmas
import Derived.Test.YtnhijjcplnomgaaGreatSimple
import Derived.Test.YtnhijjcplnomgaaGreatPrim
import Derived.Test.YtnhijjcplnomgaaGreatPrimOp
namespace Go.Proofs.YtnhijjcplnomgaaGreat.World
open Go.RowKit Go.Proofs.YtnhijjcplnomgaaGreat.Plain
set_option linter.unusedVariables false
attribute [local go_sem ↓] Go.wp_at_zero Go.wp_at_succ
def setB (B : ByteArray) (l : Nat) (z : Int) : ByteArray := strOfNums ((bNums B).set l z)
theorem bNums_len (B : ByteArray) : (bNums B).length = B.size := by unfold bNums; simp
theorem setB_size (B : ByteArray) (l : Nat) (z : Int) : (setB B l z).size = B.size := by unfold setB; rw [strOfNums_size, List.length_set, bNums_len]
theorem bNums_at (B : ByteArray) (q : Nat) (h : q < B.size) : (bNums B)[q]? = some (byteN B q) := by unfold bNums; simp [h]
theorem byteN_setB (B : ByteArray) (l q : Nat) (z : Int) (hz : 0 ≤ z ∧ z ≤ 255) (hl : l < B.size) (hq : q < B.size) : byteN (setB B l z) q = if q = l then z else byteN B q := by
  have hb := byteN_in B q
  have h : ((bNums B).set l z)[q]? = some (if q = l then z else byteN B q) := by
    rw [List.getElem?_set]
    by_cases e : l = q
    · subst e; rw [if_pos rfl, if_pos (by rw [bNums_len]; exact hl), if_pos rfl]
    · rw [if_neg e, bNums_at B q hq, if_neg (fun h => e h.symm)]
  show ((((strOfNums ((bNums B).set l z)).data.toList.getD q 0).toNat : Nat) : Int) = _
  rw [strOfNums_data, List.getD_eq_getElem?_getD, List.getElem?_map, h]
  simp only [Option.map_some, Option.getD_some]
  rw [UInt8.toNat_ofNat']
  split <;> omega
namespace MS
def putB (S : MS) (i j z : Int) : MS := S.setT i { S.t i with B := setB (S.t i).B j.toNat z }
section
variable {S : MS} {i j z : Int}
theorem putB_len : (S.putB i j z).L.length = S.L.length := by unfold putB setT; simp
theorem has_putB (k : Int) : (S.putB i j z).has k = S.has k := by unfold has; rw [putB_len]; rfl
theorem t_putB (hi : 0 ≤ i ∧ i < S.L.length) (k : Int) : (S.putB i j z).t k = if k.toNat = i.toNat then { S.t i with B := setB (S.t i).B j.toNat z } else S.t k := by
  unfold putB setT t
  rw [tAt_set _ _ _ _ (by omega)]
theorem fmt_putB (hi : 0 ≤ i ∧ i < S.L.length) (k : Int) : (S.putB i j z).fmt k = S.fmt k := by
  unfold fmt; rw [has_putB, t_putB hi]
  by_cases e : k.toNat = i.toNat
  · rw [if_pos e]; unfold t; rw [e]
  · rw [if_neg e]
theorem size_putB (hi : 0 ≤ i ∧ i < S.L.length) (k : Int) : (S.putB i j z).size k = S.size k := by
  unfold size; rw [has_putB, t_putB hi]
  by_cases e : k.toNat = i.toNat
  · rw [if_pos e]; unfold t; rw [e]; rw [setB_size]
  · rw [if_neg e]
theorem putB_wf (w : S.Wf) (h : S.isByte i j = true) : (S.putB i j z).Wf := by
  have hi : 0 ≤ i ∧ i < S.L.length := by
    unfold isByte at h
    rw [Bool.and_eq_true] at h
    exact has_lt h.1
  have T : ∀ q : Nat, tAt (S.putB i j z).L q = if q = i.toNat then { S.t i with B := setB (S.t i).B j.toNat z } else tAt S.L q := fun q => by
    have := t_putB (S := S) (j := j) (z := z) hi q
    rw [Int.toNat_natCast] at this
    exact this
  have e0 : ∀ q : Nat, q = i.toNat → S.t i = tAt S.L q := fun q e => by unfold t; rw [e]
  have hl : (S.putB i j z).L.length = S.L.length := putB_len
  refine ⟨by rw [hl]; exact w.dead, by rw [hl]; exact w.col, by rw [hl]; exact w.lo, by rw [hl]; exact w.len, w.last, ?_, ?_, ?_, ?_, ?_, ?_, ?_, ?_⟩
  · intro q hq; rw [hl] at hq; rw [T]; split
    · rename_i e; rw [e0 q e]; exact w.fmt q hq
    · exact w.fmt q hq
  · intro q hq; rw [hl] at hq; rw [T]; split
    · rename_i e; rw [e0 q e]; intro h3; show (setB _ _ _).size = 0; rw [setB_size]; exact w.noB q hq h3
    · exact w.noB q hq
  · intro q hq; rw [hl] at hq; rw [T]; split
    · rename_i e; rw [e0 q e]; exact w.noF q hq
    · exact w.noF q hq
  · intro q hq; rw [hl] at hq; rw [T]; split
    · rename_i e; rw [e0 q e]; exact w.nF q hq
    · exact w.nF q hq
  · intro q hq; rw [hl] at hq; rw [T]; split
    · rename_i e; rw [e0 q e]; show (setB _ _ _).size ≤ 200; rw [setB_size]; exact w.nB q hq
    · exact w.nB q hq
  · intro q hq; rw [hl] at hq ⊢; rw [T]; split
    · rename_i e; rw [e0 q e]; exact w.cls q hq
    · exact w.cls q hq
  · intro q hq; rw [hl] at hq; rw [T]; split
    · rename_i e; rw [e0 q e]; exact w.hash q hq
    · exact w.hash q hq
  · intro q j hq hj; rw [hl] at hq ⊢; rw [T] at hj ⊢
    split at hj
    · rename_i e; rw [if_pos e]; rw [e0 q e] at hj ⊢; exact w.fld q j hq hj
    · rename_i e; rw [if_neg e]; exact w.fld q j hq hj
end
end MS
section
variable {w w' w2 : World} {F F' F2 : Nat → Prop} {m : Nat} {S S' : MS} {X : MX}
theorem TsAt.putB {k g : Nat} {cap l : Nat} {z : Int} (h : TsAt w F S X) (hk : k < S.L.length) (hg : X.vl = .slice (some ⟨g, 0, none⟩) S.L.length cap) :
    TsAt (w.setCell ⟨g, k * 6 + 5, none⟩ (.string (setB (tAt S.L k).B l z))) F (S.putB k l z) X ∧ Keep (· = g) w (w.setCell ⟨g, k * 6 + 5, none⟩ (.string (setB (tAt S.L k).B l z))) := by
  have K : Keep (· = g) w (w.setCell ⟨g, k * 6 + 5, none⟩ (.string (setB (tAt S.L k).B l z))) := (Keep.refl (· = g) w).setCell (p := ⟨g, k * 6 + 5, none⟩) rfl _
  have hL := h.L
  rw [hg] at hL
  have o1 := hL.store k 5 hk (by omega) (.string (setB (tAt S.L k).B l z))
  have ob : X.vl.ownBlock = some g := by rw [hg]; rfl
  obtain ⟨_, cs, hb⟩ := h.L.block ob
  have T : ∀ i, tAt (S.putB k l z).L i = if i = k then { tAt S.L k with B := setB (tAt S.L k).B l z } else tAt S.L i := fun i => MS.tAt_set S.L k i _ hk
  have hlen : (S.putB k l z).L.length = S.L.length := MS.putB_len
  refine ⟨⟨h.bt.keep K (fun e => ?_), h.bF, ?_, h.LF, fun i hi => ?_, fun i hi => h.fF i (by omega), fun i j hi hj => h.ap i j (by omega) hj, h.dead.kt1 hb K (by decide), h.dF, h.col.kt1 hb K (by decide), h.colF⟩, K⟩
  · subst e; exact h.bt.ne hb (by decide) rfl
  · rw [hlen, hg]
    refine o1.congr fun i j hi hj => ?_
    show (if i = k ∧ j = 5 then _ else cT (tAt S.L i) (X.fs i) j) = cT (tAt (S.putB k l z).L i) (X.fs i) j
    rw [T i]
    by_cases he : i = k
    · subst he
      rw [if_pos (rfl : i = i)]
      rcases j with _ | _ | _ | _ | _ | _ | j
      · rw [if_neg (by omega)]; rfl
      · rw [if_neg (by omega)]; rfl
      · rw [if_neg (by omega)]; rfl
      · rw [if_neg (by omega)]; rfl
      · rw [if_neg (by omega)]; rfl
      · rw [if_pos ⟨rfl, rfl⟩]; rfl
      · omega
    · rw [if_neg (fun e => he e.1), if_neg he]
  · rw [hlen] at hi
    have e : (tAt (S.putB k l z).L i).F = (tAt S.L i).F := by
      rw [T i]
      by_cases he : i = k
      · subst he; rw [if_pos rfl]
      · rw [if_neg he]
    rw [e]
    exact (h.fs i hi).kt1 hb K (by decide)
theorem alloc_last (w : World) (ob : Obj) : (w.alloc ob).drew.heap[w.heap.size]? = some ob := by
  simp [World.alloc, World.drew, -World.alloc_eq, -World.drew_eq]
set_option maxRecDepth 100000 in
set_option maxHeartbeats 2000000 in
theorem tsetbyte (h : TsAt w F S X) (k l : Nat) (z : Int) (hz : 0 ≤ z ∧ z ≤ 255) (hk : k < S.L.length) (hl : l < (tAt S.L k).B.size) (hn : S.L.length ≤ 1000000) (hm : (tAt S.L k).B.size ≤ 200) : Calls Tryz.prog 189 #[.pointer (some ⟨X.bt, 0, none⟩), .int .i64 k, .int .i64 l, .int .i64 z] w fun e w' => e = .returned (.tuple #[]) ∧ TsAt w' F (S.putB k l z) X ∧ Keep (fun g => X.vl.ownBlock = some g) w w' := by
  obtain ⟨g, cap, e1, hg, _, _, _, _, _, c5, hfz, _⟩ := h.thing k hk
  obtain ⟨q1, q2, q3⟩ := h.bt.rules
  have HP := Lib.hid (fun (w1 : World) (x : Ext w w1) => (h.ext x).putB (l := l) (z := z) hk e1)
  have OB : Hid (X.vl.ownBlock = some g) := Lib.hid (by rw [e1]; rfl)
  rw [e1] at q1
  have f5 := hfz (k * 6 + 5)
  have c5H := Lib.hid c5
  have f5H := Lib.hid f5
  have b0 := h.bt
  rw [e1] at b0
  have BT := Lib.hid b0
  have k6 : k * 6 + 5 < S.L.length * 6 := by omega
  have hk' : (k : Int) < S.L.length := by omega
  clear h e1 hfz
  generalize hB : (tAt S.L k).B = B at *
  generalize S.L.length = n' at *
  generalize X.bt = bt at *
  have hl' : (l : Int) < B.size := by omega
  have hcv := run_bytes_of_string (P := Tryz.prog) w 9 37 5 B Tryz.underlying9 Tryz.underlying37 Tryz.underlying5
  obtain ⟨cc, hcc⟩ : ∃ cc, grownCap w B.size 0 5 = cc := ⟨_, rfl⟩
  rw [hcc] at hcv
  go_enter Tryz.func189, Tryz.ntmps189
  go_upto_region 1 with (fail)
  refine wp_name (fun w1 hW => ?_)
  have x1 : Ext w w1 := by rw [hW]; exact ((Ext.refl w).alloc _).drew
  have hh : w1.heap[w.heap.size]? = some (.cells (bytesRow B cc) 5 ((bytesRow B cc).size, (bytesRow B cc).size + 1)) := by rw [hW]; exact alloc_last _ _
  have hrow : B.size ≤ (bytesRow B cc).size := by unfold bytesRow; simp
  have cAt : ∀ q, q < B.size → w1.cell? ⟨w.heap.size, q, none⟩ = some (.int .u8 (byteN B q)) := fun q hq => by
    rw [cell_of_row w1 _ q _ _ _ hh, bytesRow_at B cc q hq]
    unfold byteN
    rw [List.getD_eq_getElem?_getD, List.getElem?_eq_getElem (by simpa using hq)]; rfl
  have fAt : w1.frozen? ⟨w.heap.size, l, none⟩ = false := by
    unfold World.frozen?
    simp only [hh]
    simp; omega
  have cl := cAt l hl
  have lt1 : w.heap.size < w1.heap.size := by
    rcases Nat.lt_or_ge w.heap.size w1.heap.size with h | h
    · exact h
    · rw [Array.getElem?_eq_none h] at hh; cases hh
  have HC := Lib.hid cAt
  have X1 := Lib.hid x1
  have gne : g ≠ w.heap.size := by omega
  have gne' : w.heap.size ≠ g := by omega
  clear hW hcv hh hrow x1 cAt hcc
  generalize hgb : w.heap.size = gb at *
  go_upto_region 2 with (fail)
  refine wp_name (fun w2 hW => ?_)
  have x2 : Ext w w2 := by rw [hW]; exact X1.out.setNew (p := ⟨gb, l, none⟩) (show w.heap.size ≤ gb by omega) _
  have c2 : ∀ q, q < B.size → w2.cell? ⟨gb, q, none⟩ = ((bNums B).set l z)[q]?.map (Value.int .u8) := fun q hq => by
    rw [hW, List.getElem?_set]
    by_cases e : l = q
    · subst e
      rw [if_pos rfl, if_pos (by rw [bNums_len]; exact hq), World.cell?_setCell_same _ _ _ (HC.out l hl)]
      rfl
    · rw [if_neg e, bNums_at B q hq, World.cell?_setCell_other _ _ _ _ (fun h => by injection h with _ h; exact e h)]
      exact HC.out q hq
  have hcv : Sem.run Tryz.prog (convert 37 9 (.slice (some ⟨gb, 0, none⟩) B.size cc)) w2.drew = .ok (.string (setB B l z)) w2.drew :=
    run_convert_bytes_arg w2.drew 37 5 Tryz.underlying37 Tryz.underlying5 gb 0 B.size cc ((bNums B).set l z) (by rw [List.length_set, bNums_len]) (fun i hi => by
      rw [Nat.zero_add]
      show w2.cell? ⟨gb, i, none⟩ = _
      rw [c2 i hi, List.getD_eq_getElem?_getD, List.getElem?_eq_getElem (by rw [List.length_set, bNums_len]; exact hi)]
      rfl) 9 Tryz.underlying9
  have c5' := (x2.below.cell (p := ⟨g, k * 6 + 5, none⟩) (show g < w.heap.size by omega)).trans c5H.out
  have f5' := (Ext.frozen x2 g (k * 6 + 5) (by omega)).trans f5H.out
  obtain ⟨q1, q2, q3⟩ := (BT.out.ext x2).rules
  have X2 := Lib.hid x2
  clear hW c2 x2 cl fAt
  go_region
  go_end0
  obtain ⟨p1, p2⟩ := HP.out w2 X2.out
  exact ⟨rfl, p1.ext ((Ext.refl _).drew), ((Keep.of_ext X2.out _).trans (p2.mono (fun j e => by subst e; exact OB.out))).drew⟩
end
end Go.Proofs.YtnhijjcplnomgaaGreat.World
namespace Go.Proofs.YtnhijjcplnomgaaGreat.World
open Go.RowKit Go.Proofs.YtnhijjcplnomgaaGreat.Plain
set_option linter.unusedVariables false
attribute [local go_sem ↓] Go.wp_at_zero Go.wp_at_succ
theorem i64_and255b (n : Int) : bits .and .i64 n 255 = n % 256 := by
  have h : (BitVec.ofInt 64 255).toNat = 2 ^ 8 - 1 := by decide
  have key : (BitVec.ofInt 64 n &&& BitVec.ofInt 64 255).toNat = (n % ((2 ^ 64 : Nat) : Int)).toNat % 2 ^ 8 := by
    rw [BitVec.toNat_and, BitVec.toNat_ofInt, h, Nat.and_two_pow_sub_one_eq_mod]
  show IntKind.i64.wrap ((BitVec.ofInt 64 n &&& BitVec.ofInt 64 255).toNat : Nat) = n % 256
  rw [key, IntKind.wrap_i64]
  omega
section
variable {w w' w2 : World} {F F' F2 : Nat → Prop} {m : Nat} {S S' : MS} {X : MX}
set_option maxRecDepth 100000 in
set_option maxHeartbeats 1000000 in
theorem mbytes (h : M w F m S) (i j : Int) : Calls Tryz.prog 127 #[.pointer (some ⟨m, 0, none⟩), .int .i64 i, .int .i64 j] w fun e w' => e = .returned (.bool (S.isByte i j)) ∧ Ext w w' := by
  obtain ⟨bt, R⟩ := h.rd
  have c0 := R.c0
  have lt := R.lt
  have C1 := Lib.hid (fun W [IsExt w W] => R.has W i)
  have C2 := Lib.hid (fun W [IsExt w W] => R.fmt W i)
  have C3 := Lib.hid (fun W [IsExt w W] => R.size W i)
  have E : Hid (S.isByte i j = (S.has i && (decide (S.fmt i = 3) && decide (0 ≤ j ∧ j < S.size i)))) := Lib.hid rfl
  clear h R
  generalize S.has i = a at *
  generalize S.fmt i = f at *
  generalize S.size i = s at *
  go_enter Tryz.func127, Tryz.ntmps127
  go_wp2_with (first | (go_at_call 181; refine (C1.out _).mono ?_; rintro e w2 ⟨rfl, x2⟩; obtain ⟨y, rfl⟩ := x2) | (go_at_call 180; refine (C2.out _).mono ?_; rintro e w2 ⟨rfl, x2⟩; obtain ⟨y, rfl⟩ := x2) | (go_at_call 191; refine (C3.out _).mono ?_; rintro e w2 ⟨rfl, x2⟩; obtain ⟨y, rfl⟩ := x2))
  all_goals (go_ret; refine ⟨ret_bool ?_, is_ext _ _⟩; rw [E.out]; simp [*] <;> (intros; omega))
set_option maxRecDepth 100000 in
set_option maxHeartbeats 1000000 in
theorem mbyte (h : M w F m S) {i : Int} {l : Nat} (hb : S.isByte i l = true) : Calls Tryz.prog 102 #[.pointer (some ⟨m, 0, none⟩), .int .i64 i, .int .i64 l] w fun e w' => e = .returned (.int .i64 (byteN (S.t i).B l)) ∧ Ext w w' := by
  have C1 := Lib.hid (fun W [x : IsExt w W] => mbytes (h.ext x.out) i l)
  rw [hb] at C1
  obtain ⟨X, hX⟩ := h
  have wf := hX.wf
  unfold MS.isByte at hb
  simp only [Bool.and_eq_true, decide_eq_true_eq] at hb
  obtain ⟨hh, hf, h0, hs⟩ := hb
  obtain ⟨a1, a2⟩ := MS.has_lt hh
  obtain ⟨k, rfl⟩ := Int.eq_ofNat_of_zero_le a1
  have hF : (tAt S.L k).F = [] := wf.noF k (by omega) (by
    unfold MS.fmt at hf; rw [if_pos hh] at hf; exact hf)
  have hl : l < (tAt S.L k).B.size := by
    unfold MS.size at hs; rw [if_pos hh] at hs
    have e : (S.t k).F = [] := hF
    rw [e] at hs
    have hs : (l : Int) < 0 + ((tAt S.L k).B.size : Int) := hs
    omega
  have b2 := wf.len
  have b3 := wf.last
  have b4 := wf.nB k (by omega)
  obtain ⟨z1, _, ltm⟩ := hX.bm.rules
  have c0 : w.cell? ⟨m, 0, none⟩ = some (.iface 88 (.pointer (some ⟨X.bt, 0, none⟩))) := z1 0
  have C2 : Hid (∀ W [IsExt w W], Calls Tryz.prog 175 #[.pointer (some ⟨X.bt, 0, none⟩), .int .i64 k, .int .i64 l] W fun e w' => e = .returned (.int .i64 (byteN (S.t k).B l)) ∧ Ext W w') := Lib.hid (fun W x => tbyte (hX.ext x.out).ts k l (by omega) hl (by omega) (by omega))
  clear hX z1 wf hh hf hs hF
  generalize byteN (S.t k).B l = y at *
  generalize X.bt = bt at *
  go_enter Tryz.func102, Tryz.ntmps102
  go_wp2_with (first | (go_at_call 127; refine (C1.out _).mono ?_; rintro e w2 ⟨rfl, x2⟩; obtain ⟨y, rfl⟩ := x2) | (go_at_call 175; refine (C2.out _).mono ?_; rintro e w2 ⟨rfl, x2⟩; obtain ⟨y, rfl⟩ := x2))
  go_ret
  exact ⟨ret_int (by simp), is_ext _ _⟩
set_option maxRecDepth 100000 in
set_option maxHeartbeats 1000000 in
theorem msetbyte (h : M w F m S) {i z : Int} {l : Nat} (hb : S.isByte i l = true) (hz : 0 ≤ z ∧ z ≤ 255) : Calls Tryz.prog 103 #[.pointer (some ⟨m, 0, none⟩), .int .i64 i, .int .i64 l, .int .i64 z] w fun e w' => e = .returned (.bool true) ∧ M w' F m (S.putB i l z) ∧ Keep F w w' := by
  have C1 := Lib.hid (fun W [x : IsExt w W] => mbytes (h.ext x.out) i l)
  rw [hb] at C1
  obtain ⟨X, hX⟩ := h
  have wf := hX.wf
  have hw := MS.putB_wf (z := z) wf hb
  unfold MS.isByte at hb
  simp only [Bool.and_eq_true, decide_eq_true_eq] at hb
  obtain ⟨hh, hf, h0, hs⟩ := hb
  obtain ⟨a1, a2⟩ := MS.has_lt hh
  obtain ⟨k, rfl⟩ := Int.eq_ofNat_of_zero_le a1
  have hF : (tAt S.L k).F = [] := wf.noF k (by omega) (by
    unfold MS.fmt at hf; rw [if_pos hh] at hf; exact hf)
  have hl : l < (tAt S.L k).B.size := by
    unfold MS.size at hs; rw [if_pos hh] at hs
    have e : (S.t k).F = [] := hF
    rw [e] at hs
    have hs : (l : Int) < 0 + ((tAt S.L k).B.size : Int) := hs
    omega
  have b2 := wf.len
  have b3 := wf.last
  have b4 := wf.nB k (by omega)
  obtain ⟨z1, _, ltm⟩ := hX.bm.rules
  have c0 : w.cell? ⟨m, 0, none⟩ = some (.iface 88 (.pointer (some ⟨X.bt, 0, none⟩))) := z1 0
  have C0 := Lib.hid c0
  have C2 : Hid (∀ W [IsExt w W], Calls Tryz.prog 189 #[.pointer (some ⟨X.bt, 0, none⟩), .int .i64 k, .int .i64 l, .int .i64 z] W fun e w' => e = .returned (.tuple #[]) ∧ M w' F m (S.putB k l z) ∧ Keep F W w') := Lib.hid (fun W x => (tsetbyte (hX.ext x.out).ts k l z hz (by omega) hl (by omega) (by omega)).mono (fun e w' ⟨he, t', kp⟩ => by
    have kt : KT [62] W w' := kp.mono (fun g hg => by
      obtain ⟨_, cs, b⟩ := (hX.ext x.out).ts.L.block hg
      exact ⟨_, cs, by simp, b⟩)
    exact ⟨he, ⟨X, (hX.ext x.out).turn t' kt hw ⟨rfl, rfl, rfl, rfl, rfl, rfl, rfl, rfl⟩ (by decide) (by decide) (by decide) (by decide) (by decide)⟩, kp.mono (fun g hg => hX.ts.LF g hg)⟩))
  have bz : bits .and .i64 z 255 = z := by rw [i64_and255b]; omega
  clear hX z1 wf hh hf hs hF hw
  generalize S.putB k l z = P at *
  generalize X.bt = bt at *
  go_enter Tryz.func103, Tryz.ntmps103
  go_wp2_with (first | (go_at_call 127; refine (C1.out _).mono ?_; rintro e w2 ⟨rfl, x2⟩; obtain ⟨y, rfl⟩ := x2))
  refine (C2.out _).mono ?_
  rintro e w3 ⟨rfl, m3, k3⟩
  have R := Lib.hid (show M w3 F m P ∧ Keep F w w3 from ⟨m3, (Keep.of_ext (is_ext w _) F).trans k3⟩)
  clear m3 k3 C2
  go_wp2_with fail
  go_ret
  exact ⟨rfl, R.out⟩
end
end Go.Proofs.YtnhijjcplnomgaaGreat.World
namespace Go.Proofs.YtnhijjcplnomgaaGreat.World
open Go.RowKit Go.Proofs.YtnhijjcplnomgaaGreat.Plain
set_option linter.unusedVariables false
attribute [local go_sem ↓] Go.wp_at_zero Go.wp_at_succ
section
variable {w w' w2 : World} {F F' F2 : Nat → Prop} {m : Nat} {S S' : MS} {X : MX}
set_option maxRecDepth 100000 in
set_option maxHeartbeats 2000000 in
theorem pindex (h : M w F m S) (s n : Int) (hn : -1000 ≤ n ∧ n ≤ 1000) : Calls Tryz.prog 101 #[.pointer (some ⟨m, 0, none⟩), .agg #[.bool true, .int .i64 s], .agg #[.bool false, .int .i64 n]] w fun e w' => e = .returned (.tuple #[.int .i64 (n - 1), .bool (decide (1 ≤ n ∧ n ≤ S.size s))]) ∧ Ext w w' := by
  obtain ⟨bt, R⟩ := h.rd
  have c0 := R.c0
  have lt := R.lt
  have C3 := Lib.hid (fun W [IsExt w W] => R.size W s)
  clear h R
  obtain ⟨n1, n2⟩ := hn
  generalize S.size s = sz at *
  by_cases h1 : 1 ≤ n
  · have d1 : decide (1 ≤ n) = true := decide_eq_true h1
    have e1 : decide (1 ≤ n ∧ n ≤ sz) = decide (n ≤ sz) := by simp [h1]
    rw [e1]
    go_enter Tryz.func101, Tryz.ntmps101
    go_upto_region 1 with (fail)
    refine wp_name (fun w1 hW => ?_)
    have x1 : Ext w w1 := by rw [hW]; exact ((Ext.refl w).alloc _).alloc _
    have i1 : IsExt w w1 := ⟨x1⟩
    have b4 : Blk w1 w.heap.size 40 #[.bool true, .int .i64 s] := by rw [hW]; exact (Blk.new w _ _).alloc _
    have b5 : Blk w1 (w.heap.size + 1) 40 #[.bool false, .int .i64 n] := by rw [hW]; exact Blk.at_ _ _ (by simp)
    have k0 := (x1.below.cell (p := ⟨m, 0, none⟩) lt).trans c0
    have l0 := Nat.lt_of_lt_of_le lt x1.below.size
    obtain ⟨p1, p2, p3⟩ := b4.rules
    obtain ⟨q1, q2, q3⟩ := b5.rules
    clear hW x1 b4 b5 c0 lt
    generalize w.heap.size = g at *
    refine wp_region_ext (by kernel_rfl) (by kernel_rfl) ?_
    repeat (go_big_quiet_step ((first | (go_at_call 191; exact calls_ext (C3.out _)))))
    refine wpQuiet_nil ?_
    rintro W ⟨x, rfl⟩
    go_wp2
    go_ret2
    exact ⟨by simp, i1.out.trans ⟨_, rfl⟩⟩
  · have d1 : decide (1 ≤ n) = false := decide_eq_false h1
    have e1 : decide (1 ≤ n ∧ n ≤ sz) = false := decide_eq_false (fun c => h1 c.1)
    rw [e1]
    go_enter Tryz.func101, Tryz.ntmps101
    go_upto_region 1 with (fail)
    refine wp_name (fun w1 hW => ?_)
    have x1 : Ext w w1 := by rw [hW]; exact ((Ext.refl w).alloc _).alloc _
    have i1 : IsExt w w1 := ⟨x1⟩
    have b4 : Blk w1 w.heap.size 40 #[.bool true, .int .i64 s] := by rw [hW]; exact (Blk.new w _ _).alloc _
    have b5 : Blk w1 (w.heap.size + 1) 40 #[.bool false, .int .i64 n] := by rw [hW]; exact Blk.at_ _ _ (by simp)
    have k0 := (x1.below.cell (p := ⟨m, 0, none⟩) lt).trans c0
    have l0 := Nat.lt_of_lt_of_le lt x1.below.size
    obtain ⟨p1, p2, p3⟩ := b4.rules
    obtain ⟨q1, q2, q3⟩ := b5.rules
    clear hW x1 b4 b5 c0 lt
    generalize w.heap.size = g at *
    refine wp_region_ext (by kernel_rfl) (by kernel_rfl) ?_
    repeat (go_big_quiet_step (fail))
    refine wpQuiet_nil ?_
    rintro W ⟨x, rfl⟩
    go_wp2
    go_ret2
    exact ⟨by simp, i1.out.trans ⟨_, rfl⟩⟩
set_option maxRecDepth 100000 in
set_option maxHeartbeats 2000000 in
theorem pget_no (h : M w F m S) (s n : Int) (hn : -1000 ≤ n ∧ n ≤ 1000) (hno : ¬ (1 ≤ n ∧ n ≤ S.size s)) : Calls Tryz.prog 60 #[.pointer (some ⟨m, 0, none⟩), .agg #[.bool true, .int .i64 s], .agg #[.bool false, .int .i64 n]] w fun e w' => e = .returned (.tuple #[.agg #[.bool false, .int .i64 0], .bool false]) ∧ Ext w w' := by
  have CI := Lib.hid (fun W [x : IsExt w W] => pindex (h.ext x.out) s n hn)
  rw [decide_eq_false hno] at CI
  clear h hno hn
  go_enter Tryz.func60, Tryz.ntmps60
  go_wp2_with fail
  refine (CI.out _).mono ?_
  rintro e w1 ⟨rfl, x1⟩
  have B6 := (Blk.at_ (w := (w.alloc (.cells #[.bool true, .int .i64 s] 40)).alloc (.cells #[.bool false, .int .i64 n] 40)) (g := w.heap.size + 1 + 1) 40 #[.bool false, .int .i64 0] (by simp)).ext x1
  have X1 := Lib.hid ((((Ext.refl w).alloc _).alloc _ |>.alloc _).trans x1)
  obtain ⟨q1, q2, q3⟩ := B6.rules
  clear x1 CI B6
  generalize hg : w.heap.size = g at *
  go_wp2_with fail
  refine bodyPost_ret (v := .tuple #[.agg #[.bool false, .int .i64 0], .bool false]) (by simp [results, Tryz.results60, go_sem, q1]) rfl ⟨rfl, ?_⟩
  exact (X1.out.setNew (p := ⟨g + 1 + 1, 0, none⟩) (show w.heap.size ≤ g + 1 + 1 by omega) _).setNew (p := ⟨g + 1 + 1, 1, none⟩) (show w.heap.size ≤ g + 1 + 1 by omega) _
set_option maxRecDepth 100000 in
set_option maxHeartbeats 2000000 in
/-- a field -/
theorem pget_f (h : M w F m S) (s : Int) (q : Nat) (hq : (q : Int) < S.size s) (hq2 : q ≤ 500) (hf : S.fmt s ≠ 3) (v : PV) (hv : S.get s q = v) : Calls Tryz.prog 60 #[.pointer (some ⟨m, 0, none⟩), .agg #[.bool true, .int .i64 s], .agg #[.bool false, .int .i64 ((q : Int) + 1)]] w fun e w' => e = .returned (.tuple #[.agg #[.bool v.obj, .int .i64 v.n], .bool true]) ∧ Ext w w' := by
  have CI := Lib.hid (fun W [x : IsExt w W] => pindex (h.ext x.out) s ((q : Int) + 1) (by omega))
  rw [decide_eq_true (show 1 ≤ (q : Int) + 1 ∧ (q : Int) + 1 ≤ S.size s by omega), show (q : Int) + 1 - 1 = q from by omega] at CI
  obtain ⟨bt, R⟩ := h.rd
  have C0 := Lib.hid R.c0
  have lt := R.lt
  have CF := Lib.hid (fun W [IsExt w W] => R.fmt W s)
  have f3 : (S.fmt s == 3) = false := beq_eq_false_iff_ne.2 hf
  have CG := Lib.hid (fun W [x : IsExt w W] => hv ▸ mget (h.ext x.out) s q)
  unfold val at CG
  clear hf hv
  clear h R hq
  go_enter Tryz.func60, Tryz.ntmps60
  go_wp2_with fail
  refine (CI.out _).mono ?_
  rintro e w1 ⟨rfl, x1⟩
  have B4 := Lib.hid ((((Blk.new w 40 #[.bool true, .int .i64 s]).alloc (.cells #[.bool false, .int .i64 ((q : Int) + 1)] 40)).alloc (.cells #[.bool false, .int .i64 0] 40)).ext x1)
  have B6 := Lib.hid ((Blk.at_ (w := (w.alloc (.cells #[.bool true, .int .i64 s] 40)).alloc (.cells #[.bool false, .int .i64 ((q : Int) + 1)] 40)) (g := w.heap.size + 1 + 1) 40 #[.bool false, .int .i64 0] (by simp)).ext x1)
  have i1 : IsExt w w1 := ⟨(((Ext.refl w).alloc _).alloc _ |>.alloc _).trans x1⟩
  have k0 := (i1.out.below.cell (p := ⟨m, 0, none⟩) lt).trans C0.out
  have l0 := Nat.lt_of_lt_of_le lt i1.out.below.size
  obtain ⟨p1, p2, p3⟩ := B4.out.rules
  clear x1 CI
  generalize hg : w.heap.size = g at *
  have hne : g ≠ g + 1 + 1 := by omega
  go_upto_region 4 with (fail)
  refine wp_region_ext (by kernel_rfl) (by kernel_rfl) ?_
  repeat (go_big_quiet_step ((first | (go_at_call 180; exact calls_ext (CF.out _)))))
  refine wpQuiet_nil ?_
  rintro W ⟨x, rfl⟩
  have i2 : IsExt w (Plain.ext w1 x) := ⟨i1.out.trans ⟨_, rfl⟩⟩
  have b4 := B4.out.ext ⟨x, rfl⟩
  have b6 := B6.out.ext ⟨x, rfl⟩
  clear B4 B6 p1 p2 p3 k0 l0 CF i1
  generalize Plain.ext w1 x = w2 at *
  obtain ⟨p1, p2, p3⟩ := b4.rules
  go_wp2_with fail
  refine (CG.out _).mono ?_
  rintro e w3 ⟨rfl, x3⟩
  obtain ⟨q1, q2, q3⟩ := (b6.ext x3).rules
  have X3 := Lib.hid (i2.out.trans x3)
  clear x3 CG i2 b4 b6 p1 p2 p3
  go_wp2_with fail
  refine bodyPost_ret (v := .tuple #[.agg #[.bool v.obj, .int .i64 v.n], .bool true]) (by simp [results, Tryz.results60, go_sem, q1]) rfl ⟨rfl, ?_⟩
  exact (X3.out.setNew (p := ⟨g + 1 + 1, 0, none⟩) (show w.heap.size ≤ g + 1 + 1 by omega) _).setNew (p := ⟨g + 1 + 1, 1, none⟩) (show w.heap.size ≤ g + 1 + 1 by omega) _
set_option maxRecDepth 100000 in
set_option maxHeartbeats 2000000 in
/-- a byte -/
theorem pget_b (h : M w F m S) (s : Int) (q : Nat) (hq : (q : Int) < S.size s) (hq2 : q ≤ 500) (hf : S.fmt s = 3) (hb : S.isByte s q = true) (y : Int) (hy : byteN (S.t s).B q = y) : Calls Tryz.prog 60 #[.pointer (some ⟨m, 0, none⟩), .agg #[.bool true, .int .i64 s], .agg #[.bool false, .int .i64 ((q : Int) + 1)]] w fun e w' => e = .returned (.tuple #[.agg #[.bool false, .int .i64 y], .bool true]) ∧ Ext w w' := by
  have CI := Lib.hid (fun W [x : IsExt w W] => pindex (h.ext x.out) s ((q : Int) + 1) (by omega))
  rw [decide_eq_true (show 1 ≤ (q : Int) + 1 ∧ (q : Int) + 1 ≤ S.size s by omega), show (q : Int) + 1 - 1 = q from by omega] at CI
  obtain ⟨bt, R⟩ := h.rd
  have C0 := Lib.hid R.c0
  have lt := R.lt
  have CF := Lib.hid (fun W [IsExt w W] => R.fmt W s)
  rw [hf] at CF
  have CG := Lib.hid (fun W [x : IsExt w W] => hy ▸ mbyte (h.ext x.out) hb)
  clear hf hb hy
  clear h R hq
  go_enter Tryz.func60, Tryz.ntmps60
  go_wp2_with fail
  refine (CI.out _).mono ?_
  rintro e w1 ⟨rfl, x1⟩
  have B4 := Lib.hid ((((Blk.new w 40 #[.bool true, .int .i64 s]).alloc (.cells #[.bool false, .int .i64 ((q : Int) + 1)] 40)).alloc (.cells #[.bool false, .int .i64 0] 40)).ext x1)
  have B6 := Lib.hid ((Blk.at_ (w := (w.alloc (.cells #[.bool true, .int .i64 s] 40)).alloc (.cells #[.bool false, .int .i64 ((q : Int) + 1)] 40)) (g := w.heap.size + 1 + 1) 40 #[.bool false, .int .i64 0] (by simp)).ext x1)
  have i1 : IsExt w w1 := ⟨(((Ext.refl w).alloc _).alloc _ |>.alloc _).trans x1⟩
  have k0 := (i1.out.below.cell (p := ⟨m, 0, none⟩) lt).trans C0.out
  have l0 := Nat.lt_of_lt_of_le lt i1.out.below.size
  obtain ⟨p1, p2, p3⟩ := B4.out.rules
  clear x1 CI
  generalize hg : w.heap.size = g at *
  have hne : g ≠ g + 1 + 1 := by omega
  go_upto_region 4 with (fail)
  refine wp_region_ext (by kernel_rfl) (by kernel_rfl) ?_
  repeat (go_big_quiet_step ((first | (go_at_call 180; exact calls_ext (CF.out _)))))
  refine wpQuiet_nil ?_
  rintro W ⟨x, rfl⟩
  have i2 : IsExt w (Plain.ext w1 x) := ⟨i1.out.trans ⟨_, rfl⟩⟩
  have b4 := B4.out.ext ⟨x, rfl⟩
  have b6 := B6.out.ext ⟨x, rfl⟩
  clear B4 B6 p1 p2 p3 k0 l0 CF i1
  generalize Plain.ext w1 x = w2 at *
  obtain ⟨p1, p2, p3⟩ := b4.rules
  go_wp2_with fail
  refine (CG.out _).mono ?_
  rintro e w3 ⟨rfl, x3⟩
  obtain ⟨q1, q2, q3⟩ := (b6.ext x3).rules
  have X3 := Lib.hid (i2.out.trans x3)
  clear x3 CG i2 b4 b6 p1 p2 p3
  go_wp2_with fail
  refine bodyPost_ret (v := .tuple #[.agg #[.bool false, .int .i64 y], .bool true]) (by simp [results, Tryz.results60, go_sem, q1]) rfl ⟨rfl, ?_⟩
  exact (X3.out.setNew (p := ⟨g + 1 + 1, 0, none⟩) (show w.heap.size ≤ g + 1 + 1 by omega) _).setNew (p := ⟨g + 1 + 1, 1, none⟩) (show w.heap.size ≤ g + 1 + 1 by omega) _
end
end Go.Proofs.YtnhijjcplnomgaaGreat.World
namespace Go.Proofs.YtnhijjcplnomgaaGreat.World
open Go.RowKit Go.Proofs.YtnhijjcplnomgaaGreat.Plain
set_option linter.unusedVariables false
attribute [local go_sem ↓] Go.wp_at_zero Go.wp_at_succ
section
variable {w w' w2 : World} {F F' F2 : Nat → Prop} {m : Nat} {S S' : MS} {X : MX}
set_option maxRecDepth 100000 in
set_option maxHeartbeats 2000000 in
theorem pset_no (h : M w F m S) (s n : Int) (vo : Bool) (vn : Int) (hn : -1000 ≤ n ∧ n ≤ 1000) (hno : ¬ (1 ≤ n ∧ n ≤ S.size s)) : Calls Tryz.prog 61 #[.pointer (some ⟨m, 0, none⟩), .agg #[.bool true, .int .i64 s], .agg #[.bool false, .int .i64 n], .agg #[.bool vo, .int .i64 vn]] w fun e w' => e = .returned (.tuple #[.agg #[.bool false, .int .i64 0], .bool false]) ∧ Ext w w' := by
  have CI := Lib.hid (fun W [x : IsExt w W] => pindex (h.ext x.out) s n hn)
  rw [decide_eq_false hno] at CI
  clear h hno hn
  go_enter Tryz.func61, Tryz.ntmps61
  go_wp2_with fail
  refine (CI.out _).mono ?_
  rintro e w1 ⟨rfl, x1⟩
  have B5 := Lib.hid (((((Blk.new w 40 #[.bool true, .int .i64 s]).alloc (.cells #[.bool false, .int .i64 n] 40)).alloc (.cells #[.bool vo, .int .i64 vn] 40)).alloc (.cells #[.bool false, .int .i64 0] 40)).ext x1)
  have B7 := Lib.hid (((Blk.at_ (w := (w.alloc (.cells #[.bool true, .int .i64 s] 40)).alloc (.cells #[.bool false, .int .i64 n] 40)) (g := w.heap.size + 1 + 1) 40 #[.bool vo, .int .i64 vn] (by simp)).alloc (.cells #[.bool false, .int .i64 0] 40)).ext x1)
  have B8 := Lib.hid ((Blk.at_ (w := ((w.alloc (.cells #[.bool true, .int .i64 s] 40)).alloc (.cells #[.bool false, .int .i64 n] 40)).alloc (.cells #[.bool vo, .int .i64 vn] 40)) (g := w.heap.size + 1 + 1 + 1) 40 #[.bool false, .int .i64 0] (by simp)).ext x1)
  have i1 : IsExt w w1 := ⟨((((Ext.refl w).alloc _).alloc _ |>.alloc _).alloc _).trans x1⟩
  clear x1 CI
  generalize hg : w.heap.size = g at *
  obtain ⟨q1, q2, q3⟩ := B8.out.rules
  clear B5 B7 B8
  go_wp2_with fail
  refine bodyPost_ret (v := .tuple #[.agg #[.bool false, .int .i64 0], .bool false]) (by simp [results, Tryz.results61, go_sem, q1]) rfl ⟨rfl, ?_⟩
  exact (i1.out.setNew (p := ⟨g + 1 + 1 + 1, 0, none⟩) (show w.heap.size ≤ g + 1 + 1 + 1 by omega) _).setNew (p := ⟨g + 1 + 1 + 1, 1, none⟩) (show w.heap.size ≤ g + 1 + 1 + 1 by omega) _
set_option maxRecDepth 100000 in
set_option maxHeartbeats 2000000 in
/-- a field is set -/
theorem pset_f (h : M w F m S) (s : Int) (hs : 23 ≤ s) (q : Nat) (hq : (q : Int) < S.size s) (hq2 : q ≤ 500) (vo : Bool) (vn : Int) (hf : S.fmt s ≠ 3) (hp : S.phase ≠ 1) (hok : S.setOK s q ⟨vo, vn⟩ = true) : Calls Tryz.prog 61 #[.pointer (some ⟨m, 0, none⟩), .agg #[.bool true, .int .i64 s], .agg #[.bool false, .int .i64 ((q : Int) + 1)], .agg #[.bool vo, .int .i64 vn]] w fun e w' => e = .returned (.tuple #[.agg #[.bool vo, .int .i64 vn], .bool true]) ∧ M w' F m (S.set s q ⟨vo, vn⟩) ∧ Keep F w w' := by
  obtain ⟨n, hn⟩ : ∃ n, (q : Int) + 1 = n := ⟨_, rfl⟩
  have CI := Lib.hid (fun W [x : IsExt w W] => pindex (h.ext x.out) s ((q : Int) + 1) (by omega))
  rw [decide_eq_true (show 1 ≤ (q : Int) + 1 ∧ (q : Int) + 1 ≤ S.size s by omega), show (q : Int) + 1 - 1 = q from by omega, hn] at CI
  obtain ⟨bt, R⟩ := h.rd
  have C0 := Lib.hid R.c0
  have lt := R.lt
  have CF := Lib.hid (fun W [IsExt w W] => R.fmt W s)
  have f3 : (S.fmt s == 3) = false := beq_eq_false_iff_ne.2 hf
  have CX := Lib.hid (fun W [x : IsExt w W] => misfirst (h.ext x.out) s)
  rw [decide_eq_false (show ¬ (0 ≤ s ∧ s < 23) by omega)] at CX
  have CW := Lib.hid (fun W [x : IsExt w W] => mset (h.ext x.out) hp s q ⟨vo, vn⟩)
  have HF := Lib.hid h.lt
  rw [hok] at CW
  unfold val at CW
  clear hf hp hok
  rw [hn]
  clear h R hq hn
  generalize S.set s q ⟨vo, vn⟩ = T at *
  go_enter Tryz.func61, Tryz.ntmps61
  go_wp2_with fail
  refine (CI.out _).mono ?_
  rintro e w1 ⟨rfl, x1⟩
  have B5 := Lib.hid (((((Blk.new w 40 #[.bool true, .int .i64 s]).alloc (.cells #[.bool false, .int .i64 n] 40)).alloc (.cells #[.bool vo, .int .i64 vn] 40)).alloc (.cells #[.bool false, .int .i64 0] 40)).ext x1)
  have B7 := Lib.hid (((Blk.at_ (w := (w.alloc (.cells #[.bool true, .int .i64 s] 40)).alloc (.cells #[.bool false, .int .i64 n] 40)) (g := w.heap.size + 1 + 1) 40 #[.bool vo, .int .i64 vn] (by simp)).alloc (.cells #[.bool false, .int .i64 0] 40)).ext x1)
  have B8 := Lib.hid ((Blk.at_ (w := ((w.alloc (.cells #[.bool true, .int .i64 s] 40)).alloc (.cells #[.bool false, .int .i64 n] 40)).alloc (.cells #[.bool vo, .int .i64 vn] 40)) (g := w.heap.size + 1 + 1 + 1) 40 #[.bool false, .int .i64 0] (by simp)).ext x1)
  have i1 : IsExt w w1 := ⟨((((Ext.refl w).alloc _).alloc _ |>.alloc _).alloc _).trans x1⟩
  clear x1 CI
  generalize hg : w.heap.size = g at *
  have k0 := (i1.out.below.cell (p := ⟨m, 0, none⟩) (show m < w.heap.size by omega)).trans C0.out
  have l0 : m < w1.heap.size := Nat.lt_of_lt_of_le (show m < w.heap.size by omega) i1.out.below.size
  obtain ⟨p1, p2, p3⟩ := B5.out.rules
  go_wp2_with fail
  refine (CX.out _).mono ?_
  rintro e w1' ⟨rfl, x1⟩
  replace B5 := Lib.hid (B5.out.ext x1)
  replace B7 := Lib.hid (B7.out.ext x1)
  replace B8 := Lib.hid (B8.out.ext x1)
  replace k0 := (x1.below.cell (p := ⟨m, 0, none⟩) l0).trans k0
  replace l0 := Nat.lt_of_lt_of_le l0 x1.below.size
  replace i1 : IsExt w w1' := ⟨i1.out.trans x1⟩
  clear x1 CX p1 p2 p3
  obtain ⟨p1, p2, p3⟩ := B5.out.rules
  go_upto_region 4 with (fail)
  refine wp_region_ext (by kernel_rfl) (by kernel_rfl) ?_
  repeat (go_big_quiet_step ((first | (go_at_call 180; exact calls_ext (CF.out _)))))
  refine wpQuiet_nil ?_
  rintro W ⟨x, rfl⟩
  have i2 : IsExt w (Plain.ext w1' x) := ⟨i1.out.trans ⟨_, rfl⟩⟩
  have b5 := B5.out.ext ⟨x, rfl⟩
  have b7 := B7.out.ext ⟨x, rfl⟩
  have b8 := B8.out.ext ⟨x, rfl⟩
  clear B5 B7 B8 p1 p2 p3 k0 l0 CF i1
  generalize Plain.ext w1' x = w2 at *
  obtain ⟨p1, p2, p3⟩ := b5.rules
  obtain ⟨r1, r2, r3⟩ := b7.rules
  go_wp2_with fail
  refine (CW.out _).mono ?_
  rintro e w3 ⟨rfl, m3, k3⟩
  have nF : ∀ j, g ≤ j → ¬ F j := fun j hj hf => by have := HF.out _ hf; omega
  have c7 := b7.keep k3 (nF _ (by omega))
  have c8 := b8.keep k3 (nF _ (by omega))
  have K3 := Lib.hid ((Keep.of_ext i2.out F).trans k3)
  have M3 := Lib.hid m3
  have N8 := Lib.hid (nF (g + 1 + 1 + 1) (by omega))
  clear m3 k3 CW i2 b5 b7 b8 p1 p2 p3 r1 r2 r3 nF
  obtain ⟨r1, r2, r3⟩ := c7.rules
  obtain ⟨q1, q2, q3⟩ := c8.rules
  have hne : g + 1 + 1 ≠ g + 1 + 1 + 1 := by omega
  clear c7 c8
  go_wp2_with fail
  refine bodyPost_ret (v := .tuple #[.agg #[.bool vo, .int .i64 vn], .bool true]) (by simp [results, Tryz.results61, go_sem, q1]) rfl ⟨rfl, ?_, ?_⟩
  · exact M3.out.far (((Keep.refl (· = g + 1 + 1 + 1) w3).setCell (p := ⟨g + 1 + 1 + 1, 0, none⟩) rfl _).setCell (p := ⟨g + 1 + 1 + 1, 1, none⟩) rfl _) (fun j e hf => N8.out (e ▸ hf))
  · exact (K3.out.setNew (p := ⟨g + 1 + 1 + 1, 0, none⟩) (show w.heap.size ≤ g + 1 + 1 + 1 by omega) _).setNew (p := ⟨g + 1 + 1 + 1, 1, none⟩) (show w.heap.size ≤ g + 1 + 1 + 1 by omega) _
set_option maxRecDepth 100000 in
set_option maxHeartbeats 2000000 in
/-- a byte is set -/
theorem pset_b (h : M w F m S) (s : Int) (hs : 23 ≤ s) (q : Nat) (hq : (q : Int) < S.size s) (hq2 : q ≤ 500) (vn : Int) (hz : 0 ≤ vn ∧ vn ≤ 255) (hf : S.fmt s = 3) (hb : S.isByte s q = true) : Calls Tryz.prog 61 #[.pointer (some ⟨m, 0, none⟩), .agg #[.bool true, .int .i64 s], .agg #[.bool false, .int .i64 ((q : Int) + 1)], .agg #[.bool false, .int .i64 vn]] w fun e w' => e = .returned (.tuple #[.agg #[.bool false, .int .i64 vn], .bool true]) ∧ M w' F m (S.putB s q vn) ∧ Keep F w w' := by
  obtain ⟨n, hn⟩ : ∃ n, (q : Int) + 1 = n := ⟨_, rfl⟩
  have CI := Lib.hid (fun W [x : IsExt w W] => pindex (h.ext x.out) s ((q : Int) + 1) (by omega))
  rw [decide_eq_true (show 1 ≤ (q : Int) + 1 ∧ (q : Int) + 1 ≤ S.size s by omega), show (q : Int) + 1 - 1 = q from by omega, hn] at CI
  obtain ⟨bt, R⟩ := h.rd
  have C0 := Lib.hid R.c0
  have lt := R.lt
  have CF := Lib.hid (fun W [IsExt w W] => R.fmt W s)
  rw [hf] at CF
  have CX := Lib.hid (fun W [x : IsExt w W] => misfirst (h.ext x.out) s)
  rw [decide_eq_false (show ¬ (0 ≤ s ∧ s < 23) by omega)] at CX
  have CW := Lib.hid (fun W [x : IsExt w W] => msetbyte (h.ext x.out) hb hz)
  have HF := Lib.hid h.lt
  obtain ⟨hz0, hz1⟩ := hz
  clear hf hb
  rw [hn]
  clear h R hq hn
  generalize S.putB s q vn = T at *
  go_enter Tryz.func61, Tryz.ntmps61
  go_wp2_with fail
  refine (CI.out _).mono ?_
  rintro e w1 ⟨rfl, x1⟩
  have B5 := Lib.hid (((((Blk.new w 40 #[.bool true, .int .i64 s]).alloc (.cells #[.bool false, .int .i64 n] 40)).alloc (.cells #[.bool false, .int .i64 vn] 40)).alloc (.cells #[.bool false, .int .i64 0] 40)).ext x1)
  have B7 := Lib.hid (((Blk.at_ (w := (w.alloc (.cells #[.bool true, .int .i64 s] 40)).alloc (.cells #[.bool false, .int .i64 n] 40)) (g := w.heap.size + 1 + 1) 40 #[.bool false, .int .i64 vn] (by simp)).alloc (.cells #[.bool false, .int .i64 0] 40)).ext x1)
  have B8 := Lib.hid ((Blk.at_ (w := ((w.alloc (.cells #[.bool true, .int .i64 s] 40)).alloc (.cells #[.bool false, .int .i64 n] 40)).alloc (.cells #[.bool false, .int .i64 vn] 40)) (g := w.heap.size + 1 + 1 + 1) 40 #[.bool false, .int .i64 0] (by simp)).ext x1)
  have i1 : IsExt w w1 := ⟨((((Ext.refl w).alloc _).alloc _ |>.alloc _).alloc _).trans x1⟩
  clear x1 CI
  generalize hg : w.heap.size = g at *
  have k0 := (i1.out.below.cell (p := ⟨m, 0, none⟩) (show m < w.heap.size by omega)).trans C0.out
  have l0 : m < w1.heap.size := Nat.lt_of_lt_of_le (show m < w.heap.size by omega) i1.out.below.size
  obtain ⟨p1, p2, p3⟩ := B5.out.rules
  go_wp2_with fail
  refine (CX.out _).mono ?_
  rintro e w1' ⟨rfl, x1⟩
  replace B5 := Lib.hid (B5.out.ext x1)
  replace B7 := Lib.hid (B7.out.ext x1)
  replace B8 := Lib.hid (B8.out.ext x1)
  replace k0 := (x1.below.cell (p := ⟨m, 0, none⟩) l0).trans k0
  replace l0 := Nat.lt_of_lt_of_le l0 x1.below.size
  replace i1 : IsExt w w1' := ⟨i1.out.trans x1⟩
  clear x1 CX p1 p2 p3
  obtain ⟨p1, p2, p3⟩ := B5.out.rules
  go_upto_region 4 with (fail)
  refine wp_region_ext (by kernel_rfl) (by kernel_rfl) ?_
  repeat (go_big_quiet_step ((first | (go_at_call 180; exact calls_ext (CF.out _)))))
  refine wpQuiet_nil ?_
  rintro W ⟨x, rfl⟩
  have i2 : IsExt w (Plain.ext w1' x) := ⟨i1.out.trans ⟨_, rfl⟩⟩
  have b5 := B5.out.ext ⟨x, rfl⟩
  have b7 := B7.out.ext ⟨x, rfl⟩
  have b8 := B8.out.ext ⟨x, rfl⟩
  clear B5 B7 B8 p1 p2 p3 k0 l0 CF i1
  generalize Plain.ext w1' x = w2 at *
  obtain ⟨p1, p2, p3⟩ := b5.rules
  obtain ⟨r1, r2, r3⟩ := b7.rules
  go_wp2_with fail
  refine (CW.out _).mono ?_
  rintro e w3 ⟨rfl, m3, k3⟩
  have nF : ∀ j, g ≤ j → ¬ F j := fun j hj hf => by have := HF.out _ hf; omega
  have c7 := b7.keep k3 (nF _ (by omega))
  have c8 := b8.keep k3 (nF _ (by omega))
  have K3 := Lib.hid ((Keep.of_ext i2.out F).trans k3)
  have M3 := Lib.hid m3
  have N8 := Lib.hid (nF (g + 1 + 1 + 1) (by omega))
  clear m3 k3 CW i2 b5 b7 b8 p1 p2 p3 r1 r2 r3 nF
  obtain ⟨r1, r2, r3⟩ := c7.rules
  obtain ⟨q1, q2, q3⟩ := c8.rules
  have hne : g + 1 + 1 ≠ g + 1 + 1 + 1 := by omega
  clear c7 c8
  go_wp2_with fail
  refine bodyPost_ret (v := .tuple #[.agg #[.bool false, .int .i64 vn], .bool true]) (by simp [results, Tryz.results61, go_sem, q1]) rfl ⟨rfl, ?_, ?_⟩
  · exact M3.out.far (((Keep.refl (· = g + 1 + 1 + 1) w3).setCell (p := ⟨g + 1 + 1 + 1, 0, none⟩) rfl _).setCell (p := ⟨g + 1 + 1 + 1, 1, none⟩) rfl _) (fun j e hf => N8.out (e ▸ hf))
  · exact (K3.out.setNew (p := ⟨g + 1 + 1 + 1, 0, none⟩) (show w.heap.size ≤ g + 1 + 1 + 1 by omega) _).setNew (p := ⟨g + 1 + 1 + 1, 1, none⟩) (show w.heap.size ≤ g + 1 + 1 + 1 by omega) _
end
end Go.Proofs.YtnhijjcplnomgaaGreat.World
namespace Go.Proofs.YtnhijjcplnomgaaGreat.World
open Go.RowKit Go.Proofs.YtnhijjcplnomgaaGreat.Plain
set_option linter.unusedVariables false
attribute [local go_sem ↓] Go.wp_at_zero Go.wp_at_succ
section
variable {w w' w2 : World} {F F' F2 : Nat → Prop} {m : Nat} {S S' : MS} {X : MX}
set_option maxRecDepth 100000 in
set_option maxHeartbeats 2000000 in
/-- a field, or a byte -/
theorem pop24 (h : M w F m S) (c k : Int) (hm : S.may ⟨true, c⟩ = true) (hk : S.may ⟨false, k⟩ = true) (gs cap : Nat) (hb : Blk w gs 40 #[.bool false, .int .i64 k]) (ro rk : Bool) (rn : Int)
    (hG : ∀ W, Ext w W → Calls Tryz.prog 60 #[.pointer (some ⟨m, 0, none⟩), .agg #[.bool true, .int .i64 c], .agg #[.bool false, .int .i64 k]] W fun e w' => e = .returned (.tuple #[.agg #[.bool ro, .int .i64 rn], .bool rk]) ∧ Ext W w') :
    Calls Tryz.prog 27 #[.pointer (some ⟨m, 0, none⟩), .int .i64 24, .agg #[.bool true, .int .i64 c], .slice (some ⟨gs, 0, none⟩) 1 cap] w fun e w' => e = .returned (.tuple #[.agg #[.bool ro, .int .i64 rn], .bool rk]) ∧ Ext w w' := by
  have CM := Lib.hid (fun W [x : IsExt w W] => mmay (h.ext x.out) ⟨true, c⟩)
  have CV := Lib.hid (fun W [x : IsExt w W] => mmay (h.ext x.out) ⟨false, k⟩)
  have CK := Lib.hid (fun W [x : IsExt w W] => hG W x.out)
  have CR := Lib.hid (fun W => pargs W 24 (by omega))
  rw [show argsN 24 = 1 from by decide] at CR
  rw [hm] at CM
  rw [hk] at CV
  have HB := Lib.hid hb
  unfold val at CM CV
  clear h hm hk hb hG
  go_enter Tryz.func27, Tryz.ntmps27
  go_wp2_with fail
  go_step3
  go_wp2_with (go_at_call 56; refine (CR.out _).mono ?_; rintro e w' ⟨rfl, rfl⟩)
  refine (CM.out _).mono ?_
  rintro e w1 ⟨rfl, x1⟩
  have B6 := Lib.hid (((Blk.new w 40 #[.bool true, .int .i64 c]).alloc (.cells #[.bool false, .int .i64 0] 40)).ext x1)
  have B8 := Lib.hid ((Blk.at_ (w := w.alloc (.cells #[.bool true, .int .i64 c] 40)) (g := w.heap.size + 1) 40 #[.bool false, .int .i64 0] (by simp)).ext x1)
  have i1 : IsExt w w1 := ⟨(((Ext.refl w).alloc _).alloc _).trans x1⟩
  have hgs := HB.out.lt
  clear x1 CM CR
  generalize hg : w.heap.size = g at *
  go_wp2_with fail
  go_loopw [30] (fun jv wr => ∃ j : Nat, j ≤ 1 ∧ jv = .int .i64 j ∧ Ext w1 wr) (fun jv _ => 1 - (intOf jv).toNat)
  case atStart => exact ⟨0, by omega, rfl, Ext.refl _⟩
  case round =>
    obtain ⟨j, hj, rfl, xr⟩ := hrel
    have ir : IsExt w wr := ⟨i1.out.trans xr⟩
    have XR := Lib.hid xr
    obtain ⟨s1, s2, s3⟩ := (HB.out.ext ir.out).rules
    clear xr
    rcases (show j = 0 ∨ j = 1 by omega) with rfl | rfl
    · go_wp2_with fail
      refine (CV.out _).mono ?_
      rintro e w2 ⟨rfl, x2⟩
      have X2 := Lib.hid ((XR.out.alloc _).trans x2)
      clear x2 CV XR ir
      go_wp2_with fail
      go_roundw
      case rel => exact ⟨1, by omega, by go_num, X2.out⟩
      case measure => simp [intOf]
    · obtain ⟨p1, p2, p3⟩ := (B6.out.ext XR.out).rules
      have B8r := Lib.hid (B8.out.ext XR.out)
      clear CV i1 B8
      go_upto_region 18 with (fail)
      refine wp_name (fun w3 hW => ?_)
      have x3 : Ext wr w3 := by rw [hW]; exact is_ext _ _
      have i3 : IsExt w w3 := ⟨ir.out.trans x3⟩
      have b12 : Blk w3 wr.heap.size 40 #[.bool false, .int .i64 k] := by rw [hW]; exact Blk.new _ _ _
      have B8q := Lib.hid (B8r.out.ext x3)
      obtain ⟨p1, p2, p3⟩ := (B6.out.ext (XR.out.trans x3)).rules
      obtain ⟨r1, r2, r3⟩ := b12.rules
      clear hW x3 b12 B8r XR ir s1 s2 s3 B6
      generalize wr.heap.size = g12 at *
      go_wp2_with fail
      refine (CK.out _).mono ?_
      rintro e w4 ⟨rfl, x4⟩
      obtain ⟨q1, q2, q3⟩ := (B8q.out.ext x4).rules
      have X4 := Lib.hid (i3.out.trans x4)
      clear x4 CK i3 B8q p1 p2 p3 r1 r2 r3
      go_wp2_with fail
      rw [Exit.noGoto_ret]
      refine bodyPost_ret (v := .tuple #[.agg #[.bool ro, .int .i64 rn], .bool rk]) (by simp [results, Tryz.results27, go_sem, q1]) rfl ⟨rfl, ?_⟩
      exact (X4.out.setNew (p := ⟨g + 1, 0, none⟩) (show w.heap.size ≤ g + 1 by omega) _).setNew (p := ⟨g + 1, 1, none⟩) (show w.heap.size ≤ g + 1 by omega) _
set_option maxRecDepth 100000 in
set_option maxHeartbeats 2000000 in
/-- a field, or a byte, is set -/
theorem pop25 (h : M w F m S) (c k : Int) (hm : S.may ⟨true, c⟩ = true) (hk : S.may ⟨false, k⟩ = true) (vo : Bool) (vn : Int) (hv : S.may ⟨vo, vn⟩ = true) (gs cap : Nat) (hb : Blk w gs 40 #[.bool false, .int .i64 k, .bool vo, .int .i64 vn]) (hgF : ¬ F gs) (ro rk : Bool) (rn : Int) (P : MS)
    (hG : ∀ W, Ext w W → Calls Tryz.prog 61 #[.pointer (some ⟨m, 0, none⟩), .agg #[.bool true, .int .i64 c], .agg #[.bool false, .int .i64 k], .agg #[.bool vo, .int .i64 vn]] W fun e w' => e = .returned (.tuple #[.agg #[.bool ro, .int .i64 rn], .bool rk]) ∧ Goes F m P W w') :
    Calls Tryz.prog 27 #[.pointer (some ⟨m, 0, none⟩), .int .i64 25, .agg #[.bool true, .int .i64 c], .slice (some ⟨gs, 0, none⟩) 2 cap] w fun e w' => e = .returned (.tuple #[.agg #[.bool ro, .int .i64 rn], .bool rk]) ∧ Goes F m P w w' := by
  have CM := Lib.hid (fun W [x : IsExt w W] => mmay (h.ext x.out) ⟨true, c⟩)
  have CV := Lib.hid (fun W [x : IsExt w W] => mmay (h.ext x.out) ⟨false, k⟩)
  have CK := Lib.hid (fun W [x : IsExt w W] => hG W x.out)
  have CV2 := Lib.hid (fun W [x : IsExt w W] => mmay (h.ext x.out) ⟨vo, vn⟩)
  rw [hv] at CV2
  have CR := Lib.hid (fun W => pargs W 25 (by omega))
  rw [show argsN 25 = 2 from by decide] at CR
  rw [hm] at CM
  rw [hk] at CV
  have HF := Lib.hid h.lt
  have HB := Lib.hid hb
  unfold val at CM CV CV2
  clear h hm hk hb hG hv
  go_enter Tryz.func27, Tryz.ntmps27
  go_wp2_with fail
  go_step3
  go_wp2_with (go_at_call 56; refine (CR.out _).mono ?_; rintro e w' ⟨rfl, rfl⟩)
  refine (CM.out _).mono ?_
  rintro e w1 ⟨rfl, x1⟩
  have B6 := Lib.hid (((Blk.new w 40 #[.bool true, .int .i64 c]).alloc (.cells #[.bool false, .int .i64 0] 40)).ext x1)
  have B8 := Lib.hid ((Blk.at_ (w := w.alloc (.cells #[.bool true, .int .i64 c] 40)) (g := w.heap.size + 1) 40 #[.bool false, .int .i64 0] (by simp)).ext x1)
  have i1 : IsExt w w1 := ⟨(((Ext.refl w).alloc _).alloc _).trans x1⟩
  have hgs := HB.out.lt
  clear x1 CM CR
  generalize hg : w.heap.size = g at *
  go_wp2_with fail
  go_loopw [30] (fun jv wr => ∃ j : Nat, j ≤ 2 ∧ jv = .int .i64 j ∧ Ext w1 wr) (fun jv _ => 2 - (intOf jv).toNat)
  case atStart => exact ⟨0, by omega, rfl, Ext.refl _⟩
  case round =>
    obtain ⟨j, hj, rfl, xr⟩ := hrel
    have ir : IsExt w wr := ⟨i1.out.trans xr⟩
    have XR := Lib.hid xr
    obtain ⟨s1, s2, s3⟩ := (HB.out.ext ir.out).rules
    clear xr
    rcases (show j = 0 ∨ j = 1 ∨ j = 2 by omega) with rfl | rfl | rfl
    · go_wp2_with fail
      refine (CV.out _).mono ?_
      rintro e w2 ⟨rfl, x2⟩
      have X2 := Lib.hid ((XR.out.alloc _).trans x2)
      clear x2 CV XR ir
      go_wp2_with fail
      go_roundw
      case rel => exact ⟨1, by omega, by go_num, X2.out⟩
      case measure => simp [intOf]
    · go_wp2_with fail
      refine (CV2.out _).mono ?_
      rintro e w2 ⟨rfl, x2⟩
      have X2 := Lib.hid ((XR.out.alloc _).trans x2)
      clear x2 CV XR ir CV2
      go_wp2_with fail
      go_roundw
      case rel => exact ⟨2, by omega, by go_num, X2.out⟩
      case measure => simp [intOf]
    · obtain ⟨p1, p2, p3⟩ := (B6.out.ext XR.out).rules
      have B8r := Lib.hid (B8.out.ext XR.out)
      have BSr := Lib.hid (HB.out.ext ir.out)
      clear CV CV2 i1 B8
      go_upto_region 20 with (fail)
      refine wp_name (fun w3 hW => ?_)
      have x3 : Ext wr w3 := by rw [hW]; exact is_ext _ _
      have i3 : IsExt w w3 := ⟨ir.out.trans x3⟩
      have B12 : Hid (Blk w3 wr.heap.size 40 #[.bool false, .int .i64 k]) := Lib.hid (by rw [hW]; exact Blk.new _ _ _)
      have B8q := Lib.hid (B8r.out.ext x3)
      have B6q := Lib.hid (B6.out.ext (XR.out.trans x3))
      have BSq := Lib.hid (BSr.out.ext x3)
      clear p1 p2 p3 s1 s2 s3
      obtain ⟨p1, p2, p3⟩ := B6q.out.rules
      obtain ⟨r1, r2, r3⟩ := B12.out.rules
      obtain ⟨s1, s2, s3⟩ := BSq.out.rules
      have hg12 : g + 1 < wr.heap.size := B8r.out.lt
      have hgr : g ≤ wr.heap.size := by have := ir.out.below.size; omega
      have N12 : Hid (¬ F wr.heap.size) := Lib.hid (fun hf => by have := HF.out _ hf; omega)
      clear hW x3 B8r XR ir B6 BSr
      generalize wr.heap.size = g12 at *
      have n1 : g ≠ g + 1 := by omega
      have n1' : g + 1 ≠ g := by omega
      have n2 : g12 ≠ g + 1 := by omega
      have n2' : g + 1 ≠ g12 := by omega
      have n3 : gs ≠ g + 1 := by omega
      have n3' : g + 1 ≠ gs := by omega
      have N6 : Hid (¬ F g) := Lib.hid (fun hf => by have := HF.out _ hf; omega)
      have N8 : Hid (¬ F (g + 1)) := Lib.hid (fun hf => by have := HF.out _ hf; omega)
      have NS := Lib.hid hgF
      have i33 : IsExt w3 w3 := ⟨Ext.refl _⟩
      go_region_held3 (fun w' => w'.cell? ⟨g, 0, none⟩ = some (.bool true) ∧ w'.cell? ⟨g, 1, none⟩ = some (.int .i64 c) ∧ w'.cell? ⟨g12, 0, none⟩ = some (.bool false) ∧ w'.cell? ⟨g12, 1, none⟩ = some (.int .i64 k) ∧ w'.cell? ⟨gs, 2, none⟩ = some (.bool vo) ∧ w'.cell? ⟨gs, 3, none⟩ = some (.int .i64 vn)) (first | go_keep) ((first | (go_at_call 61; refine (CK.out _).mono ?_; rintro e w4 ⟨rfl, F4, m4, v4⟩; obtain ⟨b6, _⟩ := v4.blk (B6q.out.ext (is_ext w3 _)) N6.out; obtain ⟨b12, _⟩ := v4.blk (B12.out.ext (is_ext w3 _)) N12.out; obtain ⟨bs, _⟩ := v4.blk (BSq.out.ext (is_ext w3 _)) NS.out; obtain ⟨b8, nF8⟩ := v4.blk (B8q.out.ext (is_ext w3 _)) N8.out; have V4 := Lib.hid ((Mov.of_ext (i3.out.trans (is_ext w3 _))).trans v4); have M4 := Lib.hid m4; obtain ⟨p1, p2, p3⟩ := b6.rules; obtain ⟨r1, r2, r3⟩ := b12.rules; obtain ⟨s1, s2, s3⟩ := bs.rules; obtain ⟨q1, q2, q3⟩ := b8.rules)))
      go_wp2_with fail
      rw [Exit.noGoto_ret]
      refine bodyPost_ret (v := .tuple #[.agg #[.bool ro, .int .i64 rn], .bool rk]) (by simp [results, Tryz.results27, go_sem, q1]) rfl ⟨rfl, F4, ?_, ?_⟩
      · exact M4.out.far (((Keep.refl (· = g + 1) w4).setCell (p := ⟨g + 1, 0, none⟩) rfl _).setCell (p := ⟨g + 1, 1, none⟩) rfl _) (fun j e hf => nF8 (e ▸ hf))
      · exact ⟨(V4.out.keep.setNew (p := ⟨g + 1, 0, none⟩) (show w.heap.size ≤ g + 1 by omega) _).setNew (p := ⟨g + 1, 1, none⟩) (show w.heap.size ≤ g + 1 by omega) _, V4.out.new⟩
end
end Go.Proofs.YtnhijjcplnomgaaGreat.World
