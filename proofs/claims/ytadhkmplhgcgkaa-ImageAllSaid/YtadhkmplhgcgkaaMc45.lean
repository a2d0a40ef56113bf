/-
  RefGet, as one text (a claim has at most 60 files).
-/
import Derived.Test.YtadhkmplhgcgkaaMc39
import Derived.Test.YtadhkmplhgcgkaaMc43
import Derived.Test.YtadhkmplhgcgkaaMc44
import Derived.Deep.RegionHeld3
import Derived.Deep.AppendLies
import Derived.Deep.DeepCutAuto
import Derived.Test.YtadhkmplhgcgkaaMc06
namespace Go.Proofs.Ytadhkmplhgcgkaa.World
open Go.RowKit Go.Proofs.Ytadhkmplhgcgkaa.Plain
set_option linter.unusedVariables false
attribute [local go_sem ↓] Go.wp_at_zero Go.wp_at_succ
structure RG7 (w : World) (g q2 q4 : Nat) (S : ByteArray) (sA sB : RdS) (tt : PT) (l : List PT) (fs : Nat → Value) (A : Option Addr) (k c : Nat) (L : Nat → Bool) (t : PT) (vF : Value) (s : Nat → Value) (W : World) : Prop where
  dA : L 3 = false → R7At w W g S sA
  dB : L 3 = true → R7At w W g S sB
  b2 : Blk W q2 31 zeroWc
  b4 : L 7 = false → Blk W q4 31 (cellsW (mkG l 0 0 [] [] [] 0) (xG (.slice A k c) fs (.slice none 0 0) (.slice none 0 0) (.slice none 0 0)))
  nw : L 5 = false → NewW W w.heap.size (mkG l 0 0 [] [] [] 0) (xG (.slice A k c) fs (.slice none 0 0) (.slice none 0 0) (.slice none 0 0))
  k4 : L 4 = true → L 3 = true
  k5 : L 5 = true → L 4 = true
  k51 : L 5 = true → L 1 = true
  k7 : L 7 = true → L 5 = true
  p0 : L 0 = true → s 52 = .pointer (some ⟨q4, 0, none⟩)
  l1 : L 1 = true → s 53 = .slice A k c
  m2 : L 2 = true → s 54 = .pointer (some ⟨g, 0, none⟩)
  v3 : L 3 = true → s 55 = .agg (aggT t vF)
  tp : L 3 = true → (sB.e = 0 → t = tt) ∧ (in64 t.cls ∧ in64 t.fmt ∧ in64 t.hash ∧ t.B.size ≤ maxLen ∧ ∀ v ∈ t.F, in64 v.n)
  o3 : L 3 = true → L 5 = false → Own W w.heap.size 37 vF t.F.length 2 (cF t.F) ∧ ∀ q, q < l.length → Apart vF (fs q)
  b5 : L 4 = true → L 5 = false → ∃ bb, s 56 = .slice (some ⟨bb, 0, none⟩) 1 1 ∧ Blk W bb 57 (aggT t vF)
  a5 : L 5 = true → ∃ gd cd, s 57 = .slice (some ⟨gd, 0, none⟩) (k + 1) cd ∧ NewW W w.heap.size (mkG (l ++ [t]) 0 0 [] [] [] 0) (xG (.slice (some ⟨gd, 0, none⟩) (k + 1) cd) (fun i => if i = l.length then vF else fs i) (.slice none 0 0) (.slice none 0 0) (.slice none 0 0))
  p6 : L 6 = true → s 58 = .pointer (some ⟨q4, 0, none⟩)
  e7 : L 7 = true → Blk W q4 31 ((cellsW (mkG l 0 0 [] [] [] 0) (xG (.slice A k c) fs (.slice none 0 0) (.slice none 0 0) (.slice none 0 0))).setIfInBounds 0 (s 57))
def frRG7 (S : ByteArray) (g q2 q4 n k : Nat) (u s : Nat → Value) : Act := { tmps := #[.string S, u 1, .pointer (some ⟨q2, 0, none⟩), u 3, u 4, .pointer (some ⟨g, 0, none⟩), .pointer (some ⟨q4, 0, none⟩), .int .i64 (n : Int), .int .i64 (k : Int), u 9, u 10, u 11, u 12, u 13, u 14, u 15, u 16, u 17, u 18, u 19, u 20, u 21, u 22, u 23, u 24, u 25, u 26, u 27, u 28, u 29, u 30, u 31, u 32, u 33, u 34, u 35, u 36, u 37, u 38, u 39, u 40, u 41, u 42, u 43, u 44, u 45, u 46, u 47, u 48, u 49, u 50, u 51, s 52, s 53, s 54, s 55, s 56, s 57, s 58, u 59, u 60, u 61, u 62, u 63, u 64, u 65, u 66, u 67, u 68, u 69, u 70, u 71, u 72, u 73, u 74, u 75, u 76, u 77, u 78, u 79, u 80, u 81, u 82, u 83, u 84, u 85, u 86, u 87, u 88, u 89, u 90, u 91, u 92, u 93, u 94, u 95, u 96, u 97, u 98, u 99, u 100, u 101, u 102, u 103, u 104, u 105, u 106, u 107, u 108, u 109, u 110, u 111, u 112, u 113, u 114, u 115, u 116, u 117, u 118, u 119, u 120, u 121, u 122, u 123, u 124, u 125, u 126, u 127, u 128, u 129, u 130, u 131, u 132, u 133, u 134, u 135, u 136, u 137, u 138, u 139, u 140, u 141, u 142, u 143, u 144, u 145, u 146, u 147, u 148], defers := [] }
def RG7Inv (w : World) (g q2 q4 : Nat) (S : ByteArray) (sA sB : RdS) (tt : PT) (l : List PT) (fs : Nat → Value) (A : Option Addr) (k c : Nat) (n : Nat) (u : Nat → Value) (listed : Array Bool) (a : Act) (W : World) : Prop :=
  ∃ L : Nat → Bool, (∀ k, listed.getD k false = L k) ∧ ∃ (t : PT) (vF : Value) (s : Nat → Value), a = frRG7 S g q2 q4 n k u s ∧ listed.size = 8 ∧ RG7 w g q2 q4 S sA sB tt l fs A k c L t vF s W
theorem e_back {s s' : RdS} (h : s.e ≠ 0 → s' = s) (z : s'.e = 0) : s.e = 0 := by
  by_cases q : s.e = 0
  · exact q
  · rw [h q] at z; exact z
theorem okB_of_str (s : ByteArray) : okB (bytesI s) := fun x hx => by
  unfold bytesI at hx
  obtain ⟨b, _, rfl⟩ := List.mem_map.1 hx
  have := b.toNat_lt
  omega
theorem byte_at (S : ByteArray) (i : Nat) (hi : i < S.size) (W : World) : (Instr.index 9 (.string S) (.int .i64 (i : Int))).run Try.prog W = .ok (.int .u8 ((bytesI S).getD i 0)) W := by
  have key : ∀ s, strI (bytesI S) = s → ∀ (h : i < s.size), ((s[i]'h).toNat : Int) = (bytesI S).getD i 0 := fun s e h => by
    subst e; exact str_at _ (okB_of_str S) i h
  have q := run_index_string (P := Try.prog) (w := W) 9 S .i64 (i : Int) Try.underlying9
  rw [q, dif_pos ⟨by omega, by omega⟩]
  have e := key S (strI_bytes S) hi
  simp only [Int.toNat_natCast]
  rw [e]
theorem magic_at (i : Nat) (hi : i < 3) (W : World) : (Instr.index 9 (.string ⟨#[67, 81, 49]⟩) (.int .i64 (i : Int))).run Try.prog W = .ok (.int .u8 (magicL.getD i 0)) W := by
  have q := byte_at ⟨#[67, 81, 49]⟩ i (by show i < 3; exact hi) W
  exact q
theorem take_next {b c : List Int} {i : Nat} (hb : i < b.length) (hc : i < c.length) (h : b.take i = c.take i) : (b.take (i + 1) = c.take (i + 1)) ↔ b.getD i 0 = c.getD i 0 := by
  rw [List.take_succ_eq_append_getElem hb, List.take_succ_eq_append_getElem hc, h, List.getD_eq_getElem?_getD, List.getD_eq_getElem?_getD, List.getElem?_eq_getElem hb, List.getElem?_eq_getElem hc]
  exact ⟨fun q => by
    have q2 := List.append_cancel_left q
    injection q2, fun q => by
    have q2 : b[i] = c[i] := q
    rw [q2]⟩
theorem extZ {a w : World} {p : Nat} (h : Ext a w) (hp : a.heap.size ≤ p) (x0 x1 x2 x3 x4 x5 x6 x7 x8 x9 x10 x11 x12 : Value) : Ext a (((((((((((((w.setCell ⟨p, 0, none⟩ x0).setCell ⟨p, 1, none⟩ x1).setCell ⟨p, 2, none⟩ x2).setCell ⟨p, 3, none⟩ x3).setCell ⟨p, 4, none⟩ x4).setCell ⟨p, 5, none⟩ x5).setCell ⟨p, 6, none⟩ x6).setCell ⟨p, 7, none⟩ x7).setCell ⟨p, 8, none⟩ x8).setCell ⟨p, 9, none⟩ x9).setCell ⟨p, 10, none⟩ x10).setCell ⟨p, 11, none⟩ x11).setCell ⟨p, 12, none⟩ x12) :=
  (((((((((((((h.setNew (p := ⟨p, 0, none⟩) hp x0).setNew (p := ⟨p, 1, none⟩) hp x1).setNew (p := ⟨p, 2, none⟩) hp x2).setNew (p := ⟨p, 3, none⟩) hp x3).setNew (p := ⟨p, 4, none⟩) hp x4).setNew (p := ⟨p, 5, none⟩) hp x5).setNew (p := ⟨p, 6, none⟩) hp x6).setNew (p := ⟨p, 7, none⟩) hp x7).setNew (p := ⟨p, 8, none⟩) hp x8).setNew (p := ⟨p, 9, none⟩) hp x9).setNew (p := ⟨p, 10, none⟩) hp x10).setNew (p := ⟨p, 11, none⟩) hp x11).setNew (p := ⟨p, 12, none⟩) hp x12)
theorem keepZ (w : World) (p : Nat) (x0 x1 x2 x3 x4 x5 x6 x7 x8 x9 x10 x11 x12 : Value) : Keep (· = p) w (((((((((((((w.setCell ⟨p, 0, none⟩ x0).setCell ⟨p, 1, none⟩ x1).setCell ⟨p, 2, none⟩ x2).setCell ⟨p, 3, none⟩ x3).setCell ⟨p, 4, none⟩ x4).setCell ⟨p, 5, none⟩ x5).setCell ⟨p, 6, none⟩ x6).setCell ⟨p, 7, none⟩ x7).setCell ⟨p, 8, none⟩ x8).setCell ⟨p, 9, none⟩ x9).setCell ⟨p, 10, none⟩ x10).setCell ⟨p, 11, none⟩ x11).setCell ⟨p, 12, none⟩ x12) :=
  ((((((((((((((Keep.refl (· = p) w).setCell (p := ⟨p, 0, none⟩) rfl x0).setCell (p := ⟨p, 1, none⟩) rfl x1).setCell (p := ⟨p, 2, none⟩) rfl x2).setCell (p := ⟨p, 3, none⟩) rfl x3).setCell (p := ⟨p, 4, none⟩) rfl x4).setCell (p := ⟨p, 5, none⟩) rfl x5).setCell (p := ⟨p, 6, none⟩) rfl x6).setCell (p := ⟨p, 7, none⟩) rfl x7).setCell (p := ⟨p, 8, none⟩) rfl x8).setCell (p := ⟨p, 9, none⟩) rfl x9).setCell (p := ⟨p, 10, none⟩) rfl x10).setCell (p := ⟨p, 11, none⟩) rfl x11).setCell (p := ⟨p, 12, none⟩) rfl x12)
section
variable {w : World}
set_option maxRecDepth 100000 in
set_option maxHeartbeats 8000000 in
theorem rgetW {S : ByteArray} (hS : S.size ≤ 9000000000000000000) : Calls Try.prog 30 #[.string S] w fun e w' => PostG w (bytesI S) e w' := by
  have HB := Lib.hid (okB_of_str S)
  have LB := Lib.hid (bytesI_len S)
  have HBA := Lib.hid (fun i hi W => byte_at S i hi W)
  generalize hb : bytesI S = b at *
  have HBS := Lib.hid hb
  clear hb
  go_enter Try.func30, Try.ntmps30
  go_upto_region 1 with (fail)
  refine wp_name (fun w1 hw => ?_)
  have B2 : Hid (Blk w1 w.heap.size 31 zeroWc) := Lib.hid (Blk.new' hw)
  have X1 := Lib.hid ((Ext.refl w).alloc' hw)
  clear hw
  generalize hq2 : w.heap.size = q2 at *
  have Q2 := Lib.hid hq2
  clear hq2
  by_cases hbig : 65536 < S.size
  · have hbI : (65536 : Int) < (S.size : Int) := by omega
    have ES : Hid (getS b = (2, none)) := Lib.hid (by unfold getS; rw [LB.out, if_pos hbig])
    have s1 := B2.out.rules.1
    have s2 := B2.out.rules.2
    unfold zeroWc at s1
    go_wp2_with fail
    refine bodyPost_ret (v := .tuple #[.agg zeroWc, .int .i64 2]) (by simp [results, Try.results30, go_sem, s1, zeroWc] <;> rfl) rfl ?_
    unfold PostG
    rw [ES.out]
    exact ⟨_, rfl, fun _ => rfl, (fun W' hW' => by cases hW'), extZ X1.out (Nat.le_of_eq Q2.out) (.slice none 0 0) (.slice none 0 0) (.int .i64 0) (.int .i64 0) (.int .i64 0) (.slice none 0 0) (.slice none 0 0) (.slice none 0 0) (.string ByteArray.empty) (.string ByteArray.empty) (.int .i64 0) (.int .i64 0) (.slice none 0 0)⟩
  · have hbI : ¬ (65536 : Int) < (S.size : Int) := by omega
    have hm6 : S.size ≤ 65536 := by omega
    go_wp2_with fail
    go_loopw [4] (fun iv wr => ∃ i : Nat, i ≤ 3 ∧ i ≤ S.size ∧ iv = .int .i64 i ∧ b.take i = magicL.take i ∧ Ext w1 wr) (fun iv _ => 3 - (intOf iv).toNat)
    case atStart => exact ⟨0, by omega, by omega, rfl, rfl, Ext.refl _⟩
    case round =>
      obtain ⟨i, hi3, him, rfl, htk, xr⟩ := hrel
      have XR := Lib.hid xr
      clear xr
      have HTK := Lib.hid htk
      clear htk
      by_cases hgo : i < 3 ∧ i < S.size
      · obtain ⟨g1, g2⟩ := hgo
        have g1I : (i : Int) < 3 := by omega
        have g2I : (i : Int) < (S.size : Int) := by omega
        have hx1 := HBA.out i g2
        have hx2 := magic_at i g1
        have TN := take_next (b := b) (c := magicL) (i := i) (by rw [LB.out]; exact g2) (by show i < 3; exact g1) HTK.out
        obtain ⟨y1, hy1⟩ : ∃ y, b.getD i 0 = y := ⟨_, rfl⟩
        obtain ⟨y2, hy2⟩ : ∃ y, magicL.getD i 0 = y := ⟨_, rfl⟩
        rw [hy1] at hx1
        rw [hy2] at hx2
        rw [hy1, hy2] at TN
        have TNH := Lib.hid TN
        clear TN hy1 hy2
        go_upto_region 6 with (fail)
        refine wp_region_ext (by kernel_rfl) (by kernel_rfl) ?_
        repeat (go_big_quiet_step (fail))
        refine wpQuiet_nil ?_
        rintro W3 ⟨xx, hx⟩
        have X3 := Lib.hid (XR.out.trans ⟨xx, hx⟩)
        clear hx hx1 hx2
        by_cases hyy : y1 = y2
        · have e1 : (y1 != y2) = false := by simp [hyy]
          have HY := Lib.hid hyy
          clear hyy
          go_wp2_with fail
          go_roundw
          case rel => exact ⟨i + 1, by omega, by omega, by go_num, TNH.out.2 HY.out, X3.out⟩
          case measure => simp [intOf] <;> omega
        · have e1 : (y1 != y2) = true := by simp [hyy]
          have ES : Hid (getS b = (4, none)) := Lib.hid (by
            unfold getS
            rw [LB.out, if_neg hbig, if_pos]
            intro q
            have q2 := congrArg (List.take (i + 1)) q
            rw [List.take_take, List.take_take, show min (i + 1) (min S.size 3) = i + 1 by omega] at q2
            exact hyy (TNH.out.1 q2))
          clear hyy
          have B3 := B2.out.ext X3.out
          have s1 := B3.rules.1
          have s2 := B3.rules.2
          unfold zeroWc at s1
          clear B3
          go_wp2_with fail
          refine bodyPost_ret (v := .tuple #[.agg zeroWc, .int .i64 4]) (by simp [results, Try.results30, go_sem, s1, zeroWc] <;> rfl) rfl ?_
          unfold PostG
          rw [ES.out]
          exact ⟨_, rfl, fun _ => rfl, (fun W' hW' => by cases hW'), extZ (X1.out.trans X3.out) (Nat.le_of_eq Q2.out) (.slice none 0 0) (.slice none 0 0) (.int .i64 0) (.int .i64 0) (.int .i64 0) (.slice none 0 0) (.slice none 0 0) (.slice none 0 0) (.string ByteArray.empty) (.string ByteArray.empty) (.int .i64 0) (.int .i64 0) (.slice none 0 0)⟩
      · have him2 : min S.size 3 = i := by
          rcases Nat.lt_or_ge i 3 with q | q
          · have q2 : ¬ i < S.size := fun z => hgo ⟨q, z⟩
            omega
          · omega
        have EM : Hid (b.take (min S.size 3) = magicL.take (min S.size 3)) := Lib.hid (by rw [him2]; exact HTK.out)
        clear him2
        have HGO := Lib.hid hgo
        clear hgo
        go_upto_region 4 with (fail)
        go_cut [23] from 16 to 23 (fun v wx => v = .bool false ∧ wx = wr)
        case first =>
          by_cases q : i < 3
          · have q1 : (i : Int) < 3 := by omega
            have q2' : ¬ (i : Int) < (S.size : Int) := fun z => HGO.out ⟨q, by omega⟩
            go_wp2_with fail
            go_meet
            exact ⟨rfl, rfl⟩
          · have q1 : ¬ (i : Int) < 3 := by omega
            go_wp2_with fail
            go_meet
            exact ⟨rfl, rfl⟩
        case rest =>
          obtain ⟨rfl, hwc⟩ := hcut
          subst hwc
          go_upto_region 9 with (fail)
          refine wp_name (fun w2 hw => ?_)
          have bg : Blk w2 wc.heap.size 97 #[.string S, .int .i64 0, .int .i64 0] := Blk.new' hw
          have x2 : Ext w w2 := (X1.out.trans XR.out).alloc' hw
          have hwr2 : w.heap.size ≤ wc.heap.size := (X1.out.trans XR.out).below.size
          have B22 : Hid (Blk w2 q2 31 zeroWc) := Lib.hid (by have z := B2.out.ext XR.out; exact z.alloc' hw)
          have D2 : Hid (R7At w w2 wc.heap.size S ⟨b, 0⟩) := Lib.hid ⟨⟨0, Nat.zero_le _, bg, by rw [HBS.out]; rfl⟩, x2, hwr2⟩
          have hgn : q2 < wc.heap.size := (B2.out.ext XR.out).lt
          clear hw bg x2
          generalize hgg : wc.heap.size = g at *
          have HG := Lib.hid hwr2
          clear hgg hwr2 XR X1 B2 HTK
          have EG : Hid (getS b = if (allG (takeR 3 ⟨b, 0⟩).2).2.e = 0 then (0, some (allG (takeR 3 ⟨b, 0⟩).2).1) else ((allG (takeR 3 ⟨b, 0⟩).2).2.e, none)) := Lib.hid (by unfold getS; rw [LB.out, if_neg hbig, if_neg (fun h => h EM.out)])
          have o1 : okB (takeR 3 ⟨b, 0⟩).2.b := (okB_take (n := 3) HB.out).2
          have l1 : (takeR 3 ⟨b, 0⟩).2.b.length ≤ 65536 := Nat.le_trans (take_short 3 _) (by show b.length ≤ 65536; rw [LB.out]; exact hm6)
          have CT := Lib.hid (fun W2 (d : R7At w W2 g S ⟨b, 0⟩) => text7 d (by omega) 3 (by decide))
          clear EM
          generalize (takeR 3 ⟨b, 0⟩).2 = s1 at *
          have CC := Lib.hid (fun W2 (d : R7At w W2 g S s1) => count7 d (by omega) o1 1 (by omega) (by omega))
          obtain ⟨n0, n1⟩ := countR_in (each := 1) o1
          have hle := count_le (each := 1) (by omega) s1
          have hsh := count_short 1 s1
          have O2 := Lib.hid (okB_count (each := 1) o1)
          obtain ⟨n, hn⟩ := Int.eq_ofNat_of_zero_le n0
          have ER : Hid (allG s1 = ((regsG (thsR n (countR 1 s1).2).1 (thsR n (countR 1 s1).2).2).1, seenR (regsG (thsR n (countR 1 s1).2).1 (thsR n (countR 1 s1).2).2).1 (overR (regsG (thsR n (countR 1 s1).2).1 (thsR n (countR 1 s1).2).2).2))) := Lib.hid (by unfold allG; rw [hn, Int.toNat_natCast])
          rw [hn] at CC hle
          have hn1 : n ≤ 65536 := by omega
          have L2 : Hid ((countR 1 s1).2.b.length ≤ 65536) := Lib.hid (by omega)
          have TS := Lib.hid (stay_ths (countR 1 s1).2)
          clear hn n0 n1 hle hsh o1 l1
          generalize allG s1 = al at *
          generalize (countR 1 s1).2 = s2 at *
          obtain ⟨iT, hT, hT0, hT1, hT2⟩ := info_parts infoT
          go_upto_region 11 with (go_at_call 71; refine (CT.out _ (D2.out.ext (is_ext _ _))).mono ?_; rintro e w3 ⟨rfl, hd, k3⟩; have D3 := Lib.hid hd; have B23 := Lib.hid ((B22.out.ext (is_ext w2 _)).keep k3 (by omega)); clear hd k3)
          refine wp_name (fun w4 hw => ?_)
          have B4 : Blk w4 w3.heap.size 31 zeroWc := Blk.new' hw
          have x4 : Ext w3 w4 := (Ext.refl w3).alloc' hw
          have G4 : Hid (GB7 w g q2 w3.heap.size S s1 zeroWc w4) := Lib.hid ⟨D3.out.ext x4, B23.out.ext x4, B4⟩
          have hq : GQ w g q2 w3.heap.size := ⟨Nat.le_of_eq Q2.out, D3.out.x.below.size, Nat.ne_of_lt B23.out.lt, Nat.ne_of_lt hgn, by obtain ⟨_, _, bb, _⟩ := D3.out.ex; have := bb.lt; omega⟩
          have GQH := Lib.hid hq
          clear hw B4 x4 hq D3 B23 B22 D2 CT hgn
          generalize w3.heap.size = q4 at *
          have n24 : q2 ≠ q4 := GQH.out.n24
          have n42 : q4 ≠ q2 := fun e => n24 e.symm
          have n2g : q2 ≠ g := GQH.out.n2g
          have n4g : q4 ≠ g := GQH.out.n4g
          have ng2 : g ≠ q2 := fun e => n2g e.symm
          have ng4 : g ≠ q4 := fun e => n4g e.symm
          have h4w := GQH.out.h4
          go_upto_region 12 with (go_at_call 72; refine (CC.out _ (G4.out.d.ext (is_ext _ _))).mono ?_; rintro e w5 ⟨rfl, hd, k5⟩; have G5 := Lib.hid ((G4.out.ext (is_ext w4 _)).call GQH.out hd k5); clear hd k5)
          go_wp2_with fail
          go_loopw [8] (fun iv wr => ∃ k : Nat, k ≤ n ∧ iv = .int .i64 k ∧ ∃ l A c fs, l.length = k ∧ ((thsR k s2).2.e = 0 → l = (thsR k s2).1) ∧ GW7 w g q2 q4 S (thsR k s2).2 (mkG l 0 0 [] [] [] 0) (xG (.slice A k c) fs (.slice none 0 0) (.slice none 0 0) (.slice none 0 0)) wr) (fun iv _ => n - (intOf iv).toNat)
          case atStart => exact ⟨0, Nat.zero_le _, rfl, [], none, 0, fun _ => .slice none 0 0, rfl, fun _ => rfl, G5.out, NewW.zero _ _ _⟩
          case round =>
            clear G4 G5 CC
            obtain ⟨k, hk, rfl, l, A, c, fs, hlk, hll, G⟩ := hrel
            have GH := Lib.hid G
            have LK := Lib.hid hlk
            have LL := Lib.hid hll
            clear hlk hll
            obtain ⟨a9, _, bb, _⟩ := G.B.d.ex
            obtain ⟨v1, v2, v3⟩ := bb.rules
            clear bb G
            obtain ⟨dd, hdd⟩ : ∃ d, decide (k < n ∧ (thsR k s2).2.e = 0) = d := ⟨_, rfl⟩
            have DD := Lib.hid hdd
            clear hdd
            go_upto_region 13 with (fail)
            go_cut [49] from 40 to 49 (fun v wx => v = .bool dd ∧ wx = wr)
            case first =>
              by_cases q : k < n
              · have q1 : (k : Int) < (n : Int) := by omega
                by_cases q2 : (thsR k s2).2.e = 0
                · have hdd : dd = true := by rw [← DD.out]; exact decide_eq_true ⟨q, q2⟩
                  have e1 : ((thsR k s2).2.e == 0) = true := by simp [q2]
                  subst hdd
                  clear q2
                  go_wp2_with fail
                  go_meet
                  exact ⟨rfl, rfl⟩
                · have hdd : dd = false := by rw [← DD.out]; exact decide_eq_false (fun z => q2 z.2)
                  have e1 : ((thsR k s2).2.e == 0) = false := beq_eq_false_iff_ne.2 q2
                  subst hdd
                  clear q2
                  go_wp2_with fail
                  go_meet
                  exact ⟨rfl, rfl⟩
              · have q1 : ¬ (k : Int) < (n : Int) := by omega
                have hdd : dd = false := by rw [← DD.out]; exact decide_eq_false (fun z => q z.1)
                subst hdd
                go_wp2_with fail
                go_meet
                exact ⟨rfl, rfl⟩
            case rest =>
              obtain ⟨rfl, hwc⟩ := hcut
              subst hwc
              clear v1 v2 v3
              cases dd with
              | true =>
                obtain ⟨hlt, he⟩ := of_decide_eq_true DD.out
                have kI : (k : Int) < (n : Int) := by omega
                have os : okB (thsR k s2).2.b := okB_ths k O2.out
                have ls : (thsR k s2).2.b.length ≤ 65536 := Nat.le_trans (ths_short k s2) L2.out
                have CV := Lib.hid (fun W2 (d : R7At w W2 g S (thsR k s2).2) => thing7 d (by omega) os (by omega))
                have EN : Hid (thsR (k + 1) s2 = ((thsR k s2).1 ++ [(thingR (thsR k s2).2).1], (thingR (thsR k s2).2).2)) := Lib.hid rfl
                have ST := Lib.hid (fun q => @stay_thing (thsR k s2).2 q)
                clear os ls
                generalize (thingR (thsR k s2).2).2 = s7 at *
                generalize (thingR (thsR k s2).2).1 = tt at *
                obtain ⟨l0, hl0⟩ : ∃ l, (thsR k s2).1 = l := ⟨_, rfl⟩
                rw [hl0] at LL EN
                clear hl0
                have hl0 := LL.out he
                have HL0 := Lib.hid hl0
                clear hl0 he
                generalize (thsR k s2).2 = sk at *
                go_upto_region 15 with (fail)
                refine wp_any_act (fun A' hA => ?_)
                have eA : A' = frRG7 S g q2 q4 n k (fun q => A'.tmps.getD q undef) (fun q => A'.tmps.getD q undef) := by rw [hA]; rfl
                obtain ⟨uu, huu⟩ : ∃ uu, (fun q => A'.tmps.getD q undef) = uu := ⟨_, rfl⟩
                rw [huu] at eA
                rw [hA] at huu
                have HU := Lib.hid huu
                clear hA huu
                subst eA
                refine wp_region_inv (Inv := RG7Inv w g q2 q4 S sk s7 tt l fs A k c n uu) (by kernel_rfl) ?_ ?_ ?_
                · refine ⟨fun _ => false, fun k => ?_, dT, undef, uu, rfl, by simp, ⟨fun _ => GH.out.B.d.ext ((Ext.refl _).drew), ?_, GH.out.B.b2.drew, fun _ => GH.out.B.b4.drew, fun _ => GH.out.N.ext ((Ext.refl _).drew), ?_, ?_, ?_, ?_, ?_, ?_, ?_, ?_, ?_, ?_, ?_, ?_, ?_, ?_⟩⟩
                  · rw [Array.getD_eq_getD_getElem?, Array.getElem?_replicate]; split <;> rfl
                  all_goals (intro h; cases h)
                · rintro listed act W ii ⟨L, hL, t, vF, s, rfl, hsz, I⟩ hi
                  obtain ⟨hlt', hnot, hdep⟩ := (ready_iff _ _).1 hi
                  have hi8 : ii < 8 := hlt'
                  have cases8 : ii = 0 ∨ ii = 1 ∨ ii = 2 ∨ ii = 3 ∨ ii = 4 ∨ ii = 5 ∨ ii = 6 ∨ ii = 7 := by omega
                  have hn0 : L ii = false := by rw [← hL ii]; exact not_bit hnot
                  clear hi hlt' hi8 hnot
                  unfold frRG7
                  rcases cases8 with rfl | rfl | rfl | rfl | rfl | rfl | rfl | rfl
                  · -- operation 0
                    refine wpOp_step rfl (fun K' hK => ?_)
                    go_simp
                    exact hK _ _ ⟨_, bit_set hL hsz 0 (by omega), t, vF, fun jx => if jx = 52 then .pointer (some ⟨q4, 0, none⟩) else s jx, by first | (simp [frRG7]; done) | (simp [frRG7]; rfl), by simpa using hsz, ⟨I.dA, I.dB, I.b2, I.b4, I.nw, I.k4, I.k5, I.k51, I.k7, fun _ => rfl, I.l1, I.m2, I.v3, I.tp, I.o3, I.b5, I.a5, I.p6, I.e7⟩⟩
                  · -- operation 1
                    simp [hL, Region.binds] at hdep
                    have d0 : L 0 = true := by simp [hdep]
                    have es := I.p0 d0
                    have n5 : L 5 = false := by cases hh5 : L 5 with | false => rfl | true => exact (by rw [I.k51 hh5] at hn0; cases hn0)
                    have n7 : L 7 = false := by cases hh7 : L 7 with | false => rfl | true => exact (by rw [I.k7 hh7] at n5; cases n5)
                    have hc : W.cell? ⟨q4, 0, none⟩ = some (.slice A k c) := (I.b4 n7).cell 0
                    have hlc := (I.b4 n7).lt
                    refine wpOp_step rfl (fun K' hK => ?_)
                    rw [es]
                    go_simp
                    exact hK _ _ ⟨_, bit_set hL hsz 1 (by omega), t, vF, fun jx => if jx = 53 then .slice A k c else s jx, by first | (simp [frRG7, es]; done) | (simp [frRG7, es]; rfl), by simpa using hsz, ⟨I.dA, I.dB, I.b2, I.b4, I.nw, I.k4, I.k5, fun _ => rfl, I.k7, I.p0, fun _ => rfl, I.m2, I.v3, I.tp, I.o3, I.b5, I.a5, I.p6, I.e7⟩⟩
                  · -- operation 2
                    refine wpOp_step rfl (fun K' hK => ?_)
                    go_simp
                    exact hK _ _ ⟨_, bit_set hL hsz 2 (by omega), t, vF, fun jx => if jx = 54 then .pointer (some ⟨g, 0, none⟩) else s jx, by first | (simp [frRG7]; done) | (simp [frRG7]; rfl), by simpa using hsz, ⟨I.dA, I.dB, I.b2, I.b4, I.nw, I.k4, I.k5, I.k51, I.k7, I.p0, I.l1, fun _ => rfl, I.v3, I.tp, I.o3, I.b5, I.a5, I.p6, I.e7⟩⟩
                  · -- operation 3
                    simp [hL, Region.binds] at hdep
                    have d2 : L 2 = true := by simp [hdep]
                    have es := I.m2 d2
                    have n4 : L 4 = false := by cases hh4 : L 4 with | false => rfl | true => exact (by rw [I.k4 hh4] at hn0; cases hn0)
                    have n5 : L 5 = false := by cases hh5 : L 5 with | false => rfl | true => exact (by rw [I.k5 hh5] at n4; cases n4)
                    have n7 : L 7 = false := by cases hh7 : L 7 with | false => rfl | true => exact (by rw [I.k7 hh7] at n5; cases n5)
                    refine wpOp_step rfl (fun K' hK => ?_)
                    rw [es]
                    go_simp
                    refine (CV.out _ (I.dA hn0)).mono ?_
                    rintro e w9 ⟨vF9, t9, rfl, ho, hq9, h64, hd, k9⟩
                    obtain ⟨_, _, bb, _⟩ := (I.dA hn0).ex
                    have NN := I.nw n5
                    have kt9 : KT [97] W w9 := Keep.mono k9 (fun j e => by subst e; exact ⟨_, _, by simp, bb⟩)
                    exact hK _ _ ⟨_, bit_set hL hsz 3 (by omega), t9, vF9, fun jx => if jx = 55 then .agg (aggT t9 vF9) else s jx, by first | (simp [frRG7, es]; done) | (simp [frRG7, es]; rfl), by simpa using hsz, ⟨(fun h => absurd h (by simp)), (fun _ => hd), I.b2.keep k9 n2g, (fun h => (I.b4 h).keep k9 n4g), (fun _ => NN.kt kt9 (by decide) (by decide) (by decide) (by decide) (by decide) (by decide)), fun _ => rfl, I.k5, I.k51, I.k7, I.p0, I.l1, I.m2, fun _ => rfl, fun _ => ⟨hq9, h64⟩, (fun _ _ => ⟨ho.base (I.dA hn0).x.below.size, fun q hq => Own.apart ho (NN.fs q hq)⟩), (fun h => absurd (show L 4 = true from h) (by rw [n4]; decide)), (fun h => absurd (show L 5 = true from h) (by rw [n5]; decide)), I.p6, (fun h => absurd (show L 7 = true from h) (by rw [n7]; decide))⟩⟩
                  · -- operation 4
                    simp [hL, Region.binds] at hdep
                    have d3 : L 3 = true := by simp [hdep]
                    have es := I.v3 d3
                    have n5 : L 5 = false := by cases hh5 : L 5 with | false => rfl | true => exact (by rw [I.k5 hh5] at hn0; cases hn0)
                    have n7 : L 7 = false := by cases hh7 : L 7 with | false => rfl | true => exact (by rw [I.k7 hh7] at n5; cases n5)
                    have xA := (Ext.refl W).alloc (.cells (aggT t vF) 57)
                    refine wpOp_step rfl (fun K' hK => ?_)
                    rw [es]
                    unfold aggT
                    go_simp
                    exact hK _ _ ⟨_, bit_set hL hsz 4 (by omega), t, vF, fun jx => if jx = 56 then .slice (some ⟨W.heap.size, 0, none⟩) 1 1 else s jx, by first | (simp [frRG7, es]; done) | (simp [frRG7, es]; rfl), by simpa using hsz, ⟨(fun h => (I.dA h).ext xA), (fun h => (I.dB h).ext xA), I.b2.ext xA, (fun h => (I.b4 h).ext xA), (fun h => (I.nw h).ext xA), fun _ => d3, fun _ => rfl, I.k51, I.k7, I.p0, I.l1, I.m2, I.v3, I.tp, (fun _ h => ⟨(I.o3 d3 h).1.ext xA, (I.o3 d3 h).2⟩), (fun _ _ => ⟨_, rfl, Blk.new _ _ _⟩), (fun h => absurd (show L 5 = true from h) (by rw [n5]; decide)), I.p6, (fun h => absurd (show L 7 = true from h) (by rw [n7]; decide))⟩⟩
                  · -- operation 5
                    simp [hL, Region.binds] at hdep
                    have d1 : L 1 = true := by simp [hdep]
                    have d4 : L 4 = true := by simp [hdep]
                    have e1 := I.l1 d1
                    obtain ⟨bb, e4, hbb⟩ := I.b5 d4 hn0
                    have NN := I.nw hn0
                    have d3 := I.k4 d4
                    have o3 := I.o3 d3 hn0
                    obtain ⟨AV, cV', eV⟩ := Own.form o3.1
                    have OO : Own W w.heap.size 57 (.slice A k c) k 6 (cL l fs) := by have q := NN.L; have e : (mkG l 0 0 [] [] [] 0).L.length = k := LK.out; rw [e] at q; exact q
                    refine wpOp_step rfl (fun K' hK => ?_)
                    rw [e1, e4]
                    refine step_append_lies _ (by rfl) (.tmp 53) (.tmp 56) 24 (by rfl) w.heap.size 57 iT (.agg #[.int .i64 0, .int .i64 0, .int .i64 0, .bool false, .slice none 0 0, .string ByteArray.empty]) 6 72 Try.underlying24 hT hT0 hT1 hT2 rfl (by decide) (.slice A k c) k (flat k 6 (cL l fs)) (by rfl) OO ⟨bb, 0, none⟩ 1 1 [.int .i64 t.cls, .int .i64 t.fmt, .int .i64 t.hash, .bool t.fin, vF, .string t.B] (by rfl) (by rfl) (World.news_of_block hbb) (by rw [eV]; simp [Value.oneCell']) (by omega) (by unfold maxLen; omega) (by omega) (by have := I.b2.lt; have := GQH.out.h2; omega) W.heap.size rfl ?_
                    intro gd cd w10 o10 g10 hat hlt10
                    have KG : Keep (fun j => Value.ownBlock (.slice A k c) = some j) W w10 := ⟨g10.os, g10.tape, g10.output, g10.size, fun k hk hn => g10.block k hk (fun e => hn e.symm)⟩
                    have nT : ∀ {b : Nat} {cs : Array Value}, Blk W b 31 cs → ¬ Value.ownBlock (.slice A k c) = some b := fun hb e => by obtain ⟨_, c, h'⟩ := OO.block e; exact (hb.ne h' (by decide)) rfl
                    have nR : ∀ {s : RdS}, R7At w W g S s → R7At w w10 g S s := fun d => d.grow KG (fun e => by obtain ⟨_, c, h'⟩ := OO.block e; obtain ⟨_, _, b, _⟩ := d.ex; exact (b.ne h' (by decide)) rfl) (fun j e => (OO.block e).1)
                    have o11 : w10.ownsRow w.heap.size 57 6 (.slice (some ⟨gd, 0, none⟩) (k + 1) cd) ((mkG l 0 0 [] [] [] 0).L.length + 1) (flat (mkG l 0 0 [] [] [] 0).L.length 6 (cL l fs) ++ [.int .i64 t.cls, .int .i64 t.fmt, .int .i64 t.hash, .bool t.fin, vF, .string t.B]) := by
                      show w10.ownsRow _ _ _ _ (l.length + 1) (flat l.length 6 _ ++ _)
                      rw [LK.out]; exact o10
                    have NP := NewW.push NN KG o11 o3.1 o3.2 (I.tp d3).2
                    refine hK _ _ ⟨_, bit_set hL hsz 5 (by omega), t, vF, fun jx => if jx = 57 then .slice (some ⟨gd, 0, none⟩) (k + 1) cd else s jx, by first | (simp [frRG7, e1, e4, Act.put]; done) | (simp [frRG7, e1, e4, Act.put]; rfl), by simpa using hsz, ⟨(fun h => nR (I.dA h)), (fun h => nR (I.dB h)), I.b2.keep KG (nT I.b2), (fun h => (I.b4 h).keep KG (nT (I.b4 h))), (fun h => absurd h (by simp)), I.k4, fun _ => d4, fun _ => d1, fun _ => rfl, I.p0, I.l1, I.m2, I.v3, I.tp, (fun _ h => absurd h (by simp)), (fun _ h => absurd h (by simp)), (fun _ => ⟨gd, cd, rfl, NP⟩), I.p6, (fun h => absurd (show L 7 = true from h) (by cases hh7 : L 7 with | false => decide | true => exact (by rw [I.k7 hh7] at hn0; cases hn0)))⟩⟩
                  · -- operation 6
                    refine wpOp_step rfl (fun K' hK => ?_)
                    go_simp
                    exact hK _ _ ⟨_, bit_set hL hsz 6 (by omega), t, vF, fun jx => if jx = 58 then .pointer (some ⟨q4, 0, none⟩) else s jx, by first | (simp [frRG7]; done) | (simp [frRG7]; rfl), by simpa using hsz, ⟨I.dA, I.dB, I.b2, I.b4, I.nw, I.k4, I.k5, I.k51, I.k7, I.p0, I.l1, I.m2, I.v3, I.tp, I.o3, I.b5, I.a5, fun _ => rfl, I.e7⟩⟩
                  · -- operation 7
                    simp [hL, Region.binds] at hdep
                    have d5 : L 5 = true := by simp [hdep]
                    have d6 : L 6 = true := by simp [hdep]
                    have e6 := I.p6 d6
                    obtain ⟨gd, cd, e5, N5⟩ := I.a5 d5
                    have B4 := I.b4 hn0
                    have hc : W.cell? ⟨q4, 0, none⟩ = some (.slice A k c) := B4.cell 0
                    have hlc := B4.lt
                    have hfc := B4.frozen
                    refine wpOp_step rfl (fun K' hK => ?_)
                    rw [e5, e6]
                    go_simp
                    have KTs := kt_set B4 0 (.slice (some ⟨gd, 0, none⟩) (k + 1) cd)
                    exact hK _ _ ⟨_, bit_set hL hsz 7 (by omega), t, vF, s, by first | (simp [frRG7, e5, e6]; done) | (simp [frRG7, e5, e6]; rfl), by simpa using hsz, ⟨(fun h => (I.dA h).far n4g h4w 0 _), (fun h => (I.dB h).far n4g h4w 0 _), I.b2.far (p := ⟨q4, 0, none⟩) n24 _, (fun h => absurd h (by simp)), (fun h => absurd (show L 5 = false from h) (by rw [d5]; decide)), I.k4, I.k5, I.k51, fun _ => d5, I.p0, I.l1, I.m2, I.v3, I.tp, (fun _ h => absurd (show L 5 = false from h) (by rw [d5]; decide)), (fun _ h => absurd (show L 5 = false from h) (by rw [d5]; decide)), (fun _ => ⟨gd, cd, e5, N5.kt KTs (by decide) (by decide) (by decide) (by decide) (by decide) (by decide)⟩), I.p6, (fun _ => by rw [e5]; exact B4.set 0 _)⟩⟩
                · rintro listed act W ⟨L, hL, t, vF, s, rfl, hsz, I⟩ hr
                  have ALL : ∀ i, i < 8 → L i = true := fun i hi => by rw [← hL i]; exact all_listed (by kernel_rfl) hsz hr i hi
                  obtain ⟨gd, cd, e5, N5⟩ := I.a5 (ALL 5 (by omega))
                  have B4 := I.e7 (ALL 7 (by omega))
                  have TPH := Lib.hid (I.tp (ALL 3 (by omega))).1
                  rw [e5] at B4
                  have T11 : Hid (GW7 w g q2 q4 S s7 (mkG (l ++ [t]) 0 0 [] [] [] 0) (xG (.slice (some ⟨gd, 0, none⟩) (k + 1) cd) (fun i => if i = l.length then vF else fs i) (.slice none 0 0) (.slice none 0 0) (.slice none 0 0)) W) := Lib.hid ⟨⟨I.dB (ALL 3 (by omega)), I.b2, B4⟩, N5⟩
                  unfold frRG7
                  dsimp only
                  rw [← HU.out]
                  simp only [Array.getD_eq_getD_getElem?, List.getElem?_toArray, List.getElem?_cons_zero, List.getElem?_cons_succ, Option.getD_some]
                  clear hL ALL HU hr hsz I e5 N5 B4 GH CV
                  go_wp2_with fail
                  go_roundw
                  case rel => exact ⟨k + 1, by omega, by go_num, l ++ [t], some ⟨gd, 0, none⟩, cd, _, by rw [List.length_append, LK.out]; rfl, by rw [EN.out]; exact fun z => by rw [HL0.out, TPH.out z], by rw [EN.out]; exact T11.out⟩
                  case measure => simp [intOf] <;> omega
              | false =>
                have hng := of_decide_eq_false DD.out
                have hs3 : (thsR n s2).2 = (thsR k s2).2 := by
                  rcases Nat.lt_or_ge k n with q | q
                  · exact TS.out k n hk (fun z => hng ⟨q, z⟩)
                  · obtain rfl : k = n := by omega
                    rfl
                have LL3 : Hid ((thsR n s2).2.e = 0 → l = (thsR n s2).1) := Lib.hid (fun z => by
                  rcases Nat.lt_or_ge k n with q | q
                  · exact absurd ⟨q, by rw [← hs3]; exact z⟩ hng
                  · obtain rfl : k = n := by omega
                    exact LL.out z)
                rw [← hs3] at GH
                have o3 : okB (thsR n s2).2.b := okB_ths n O2.out
                have l3 : (thsR n s2).2.b.length ≤ 65536 := Nat.le_trans (ths_short n s2) L2.out
                have ER2 := ER.out
                clear ER O2 L2 hng hs3 LL DD TS
                generalize (thsR n s2).2 = s3 at *
                generalize (thsR n s2).1 = l0 at *
                generalize hvL : Value.slice A k c = vL at *
                clear hvL
                simp only [regsG] at ER2
                have o4 := okB_num o3
                have o5 := okB_num o4
                have o6 := okB_places o5
                have o7 := okB_count (each := 8) o6
                have l5 : (numR (numR s3).2).2.b.length ≤ 65536 := Nat.le_trans (num_short _) (Nat.le_trans (num_short _) l3)
                have l6 : (placesR (numR (numR s3).2).2).2.b.length ≤ 65536 := Nat.le_trans (places_short _) l5
                have l7 : (countR 8 (placesR (numR (numR s3).2).2).2).2.b.length ≤ 65536 := Nat.le_trans (count_short 8 _) l6
                obtain ⟨p0, p1⟩ := numR_in o3
                obtain ⟨f0, f1⟩ := numR_in o4
                have P64 := Lib.hid (num64 o3)
                have F64 := Lib.hid (num64 o4)
                have CN1 := Lib.hid (fun W2 (d : R7At w W2 g S s3) => word7 d (by omega) o3)
                have CN2 := Lib.hid (fun W2 (d : R7At w W2 g S (numR s3).2) => word7 d (by omega) o4)
                have CP1 := Lib.hid (fun W2 (d : R7At w W2 g S (numR (numR s3).2).2) => list7 d (by omega) o5 (by omega))
                have CC8 := Lib.hid (fun W2 (d : R7At w W2 g S (placesR (numR (numR s3).2).2).2) => count7 d (by omega) o6 8 (by omega) (by omega))
                obtain ⟨n0, n1⟩ := countR_in (each := 8) o6
                have hle := count_le (each := 8) (by omega) (placesR (numR (numR s3).2).2).2
                have BK1 : Hid ((numR s3).2.e = 0 → s3.e = 0) := Lib.hid (e_back (fun q => stay_num q))
                have BK2 : Hid ((numR (numR s3).2).2.e = 0 → (numR s3).2.e = 0) := Lib.hid (e_back (fun q => stay_num q))
                have BK3 : Hid ((placesR (numR (numR s3).2).2).2.e = 0 → (numR (numR s3).2).2.e = 0) := Lib.hid (e_back (fun q => stay_places q))
                have BK4 : Hid ((countR 8 (placesR (numR (numR s3).2).2).2).2.e = 0 → (placesR (numR (numR s3).2).2).2.e = 0) := Lib.hid (e_back (fun q => (stay_count q).1))
                clear o3 o4 o5 o6 l3 l5 l6
                obtain ⟨m, hm⟩ := Int.eq_ofNat_of_zero_le n0
                rw [hm] at CC8 ER2 hle
                rw [Int.toNat_natCast] at ER2
                have hm1 : m ≤ 65536 := by omega
                have O7 := Lib.hid o7
                have L7 := Lib.hid l7
                clear hm n0 n1 hle o7 l7
                generalize (countR 8 (placesR (numR (numR s3).2).2).2).2 = s7 at *
                generalize (placesR (numR (numR s3).2).2).2 = s6 at *
                generalize (placesR (numR (numR s3).2).2).1 = re0 at *
                generalize (numR (numR s3).2).2 = s5 at *
                generalize (numR (numR s3).2).1 = nf at *
                generalize (numR s3).2 = s4 at *
                generalize (numR s3).1 = np at *
                have ER := Lib.hid ER2
                clear ER2
                have pw : IntKind.i64.wrap np = np := IntWalk.i64_in _ (by omega)
                have fw : IntKind.i64.wrap nf = nf := IntWalk.i64_in _ (by omega)
                obtain ⟨t1, t2, t3⟩ := GH.out.B.b4.rules
                go_upto_region 17 with ((first | (go_at_call 74; refine (CN2.out _ (G5.out.B.d.ext (is_ext _ _))).mono ?_; rintro e w6 ⟨rfl, hd, k9⟩; have G6 := Lib.hid ((G5.out.ext (is_ext _ _)).call GQH.out hd k9); clear hd k9; clear t1 t2 t3; obtain ⟨t1, t2, t3⟩ := G6.out.B.b4.rules) | (go_at_call 74; refine (CN1.out _ (GH.out.B.d.ext (is_ext _ _))).mono ?_; rintro e w5 ⟨rfl, hd, k9⟩; have G5 := Lib.hid ((GH.out.ext (is_ext _ _)).call GQH.out hd k9); clear hd k9; clear t1 t2 t3; obtain ⟨t1, t2, t3⟩ := G5.out.B.b4.rules)))
                refine wp_name (fun w7 hw => ?_)
                have G7 : Hid (GW7 w g q2 q4 S s5 (mkG l np nf [] [] [] 0) (xG vL fs (.slice none 0 0) (.slice none 0 0) (.slice none 0 0)) w7) := Lib.hid (by rw [hw]; exact (G6.out.setP GQH.out P64.out).setF GQH.out F64.out)
                clear hw t1 t2 t3 G6 G5 GH CN1 CN2 P64 F64
                obtain ⟨t1, t2, t3⟩ := G7.out.B.b4.rules
                go_upto_region 18 with (go_at_call 75; refine (CP1.out _ (G7.out.B.d.ext (is_ext _ _))).mono ?_; rintro e w8 ⟨vr, re, rfl, hv, hq, h64, hd, k9⟩; obtain ⟨Ar, cr, ev⟩ := Own.form hv.own; subst ev; have RV8 := Lib.hid (OwnI.low hv (G7.out.ext (is_ext _ _)).B.d.x.below.size); have R64 := Lib.hid h64; have RQ := Lib.hid hq; clear hv hq h64; have G8 := Lib.hid ((G7.out.ext (is_ext _ _)).call GQH.out hd k9); clear hd k9; clear t1 t2 t3; obtain ⟨t1, t2, t3⟩ := G8.out.B.b4.rules)
                refine wp_name (fun w9 hw => ?_)
                have G9 : Hid (GW7 w g q2 q4 S s6 (mkG l np nf re [] [] 0) (xG vL fs (.slice Ar re.length cr) (.slice none 0 0) (.slice none 0 0)) w9) := Lib.hid (by rw [hw]; exact G8.out.setRe GQH.out RV8.out R64.out)
                clear hw t1 t2 t3 G8 G7 CP1 R64 RV8
                generalize hvr : Value.slice Ar re.length cr = vr at *
                clear hvr
                obtain ⟨t1, t2, t3⟩ := G9.out.B.b4.rules
                go_upto_region 19 with (go_at_call 72; refine (CC8.out _ (G9.out.B.d.ext (is_ext _ _))).mono ?_; rintro e w10 ⟨rfl, hd, k9⟩; have G10 := Lib.hid ((G9.out.ext (is_ext _ _)).call GQH.out hd k9); clear hd k9; clear t1 t2 t3)
                clear G9 CC8 p0 p1 f0 f1
                obtain ⟨iW, hW, hW0, hW1, hW2⟩ := info_parts infoW'
                go_wp2_with fail
                rename World => wo
                have WS := Lib.hid (fun k j (hk : k ≤ j) (z : (waitsR k s7).2.e ≠ 0) => show (waitsR j s7).2 = (waitsR k s7).2 from by
                  induction j with
                  | zero => obtain rfl : k = 0 := by omega
                            rfl
                  | succ j ih =>
                    rcases Nat.lt_or_ge k (j + 1) with h1 | h1
                    · have e := ih (by omega)
                      show (numR (numR (waitsR j s7).2).2).2 = _
                      rw [e, stay_num z]; exact stay_num z
                    · obtain rfl : k = j + 1 := by omega
                      rfl)
                go_loopw [10] (fun iv wr => ∃ j : Nat, j ≤ m ∧ iv = .int .i64 j ∧ ∃ wa A c, wa.length = j ∧ ((waitsR j s7).2.e = 0 → wa = (waitsR j s7).1) ∧ GW7 w g q2 q4 S (waitsR j s7).2 (mkG l np nf re wa [] 0) (xG vL fs vr (.slice A j c) (.slice none 0 0)) wr) (fun iv _ => m - (intOf iv).toNat)
                case atStart => exact ⟨0, Nat.zero_le _, rfl, [], none, 0, rfl, fun _ => rfl, G10.out⟩
                case round =>
                  clear G10
                  obtain ⟨j, hj, rfl, wa, A, c, hlk, hll, G⟩ := hrel
                  have GH := Lib.hid G
                  have LJ := Lib.hid hlk
                  have LL := Lib.hid hll
                  clear hlk hll
                  obtain ⟨a9, _, bb, _⟩ := G.B.d.ex
                  obtain ⟨v1, v2, v3⟩ := bb.rules
                  clear bb G
                  obtain ⟨dd, hdd⟩ : ∃ d, decide (j < m ∧ (waitsR j s7).2.e = 0) = d := ⟨_, rfl⟩
                  have DD := Lib.hid hdd
                  clear hdd
                  go_upto_region 20 with (fail)
                  go_cut [84] from 75 to 84 (fun v wx => v = .bool dd ∧ wx = wr)
                  case first =>
                    by_cases q : j < m
                    · have q1 : (j : Int) < (m : Int) := by omega
                      by_cases q2 : (waitsR j s7).2.e = 0
                      · have hdd : dd = true := by rw [← DD.out]; exact decide_eq_true ⟨q, q2⟩
                        have e1 : ((waitsR j s7).2.e == 0) = true := by simp [q2]
                        subst hdd
                        clear q2
                        go_wp2_with fail
                        go_meet
                        exact ⟨rfl, rfl⟩
                      · have hdd : dd = false := by rw [← DD.out]; exact decide_eq_false (fun z => q2 z.2)
                        have e1 : ((waitsR j s7).2.e == 0) = false := beq_eq_false_iff_ne.2 q2
                        subst hdd
                        clear q2
                        go_wp2_with fail
                        go_meet
                        exact ⟨rfl, rfl⟩
                    · have q1 : ¬ (j : Int) < (m : Int) := by omega
                      have hdd : dd = false := by rw [← DD.out]; exact decide_eq_false (fun z => q z.1)
                      subst hdd
                      go_wp2_with fail
                      go_meet
                      exact ⟨rfl, rfl⟩
                  case rest =>
                    obtain ⟨rfl, hwc⟩ := hcut
                    subst hwc
                    clear v1 v2 v3
                    cases dd with
                    | true =>
                      obtain ⟨hlt, he⟩ := of_decide_eq_true DD.out
                      have kI : (j : Int) < (m : Int) := by omega
                      have o8 : okB (waitsR j s7).2.b := okB_waits j O7.out
                      have o9 := okB_num o8
                      obtain ⟨p0, p1⟩ := numR_in o8
                      obtain ⟨f0, f1⟩ := numR_in o9
                      have CW1 := Lib.hid (fun W2 (d : R7At w W2 g S (waitsR j s7).2) => word7 d (by omega) o8)
                      have CW2 := Lib.hid (fun W2 (d : R7At w W2 g S (numR (waitsR j s7).2).2) => word7 d (by omega) o9)
                      have U64 := Lib.hid (And.intro (num64 o8) (num64 o9))
                      have EN2 : Hid (waitsR (j + 1) s7 = ((waitsR j s7).1 ++ [((numR (waitsR j s7).2).1, (numR (numR (waitsR j s7).2).2).1)], (numR (numR (waitsR j s7).2).2).2)) := Lib.hid rfl
                      clear o8 o9
                      obtain ⟨w0l, hw0l⟩ : ∃ l, (waitsR j s7).1 = l := ⟨_, rfl⟩
                      rw [hw0l] at LL EN2
                      clear hw0l
                      have hl0 := LL.out he
                      have HL0 := Lib.hid hl0
                      clear hl0 he
                      generalize (numR (numR (waitsR j s7).2).2).2 = sB at *
                      generalize (numR (waitsR j s7).2).2 = sA at *
                      obtain ⟨u, hu⟩ : ∃ u : Int × Int, ((numR (waitsR j s7).2).1, (numR sA).1) = u := ⟨_, rfl⟩
                      have hu1 : (numR (waitsR j s7).2).1 = u.1 := by rw [← hu]
                      have hu2 : (numR sA).1 = u.2 := by rw [← hu]
                      rw [hu] at EN2
                      rw [hu1] at CW1 p0 p1 U64
                      rw [hu2] at CW2 f0 f1 U64
                      clear hu hu1 hu2
                      generalize (waitsR j s7).2 = s8 at *
                      have pw : IntKind.i64.wrap u.1 = u.1 := IntWalk.i64_in _ (by omega)
                      have fw : IntKind.i64.wrap u.2 = u.2 := IntWalk.i64_in _ (by omega)
                      go_upto_region 23 with ((first | (go_at_call 74; refine (CW2.out _ (G11.out.B.d.ext (is_ext _ _))).mono ?_; rintro e w12 ⟨rfl, hd, k9⟩; have G12 := Lib.hid ((G11.out.ext (is_ext _ _)).call GQH.out hd k9); clear hd k9; skip) | (go_at_call 74; refine (CW1.out _ (GH.out.B.d.ext (is_ext _ _))).mono ?_; rintro e w11 ⟨rfl, hd, k9⟩; have G11 := Lib.hid ((GH.out.ext (is_ext _ _)).call GQH.out hd k9); clear hd k9; skip)))
                      refine wp_name (fun w13 hw => ?_)
                      have x13 : Ext w12 w13 := (Ext.refl w12).alloc' hw
                      have b11 : Blk w13 w12.heap.size 75 #[.int .i64 u.1, .int .i64 u.2] := Blk.new' hw
                      have G13 := Lib.hid (G12.out.ext x13)
                      have hc1 : w13.cell? ⟨w12.heap.size, 0, none⟩ = some (.int .i64 u.1) := b11.cell 0
                      have hc2 : w13.cell? ⟨w12.heap.size, 1, none⟩ = some (.int .i64 u.2) := b11.cell 1
                      have hl11 := b11.lt
                      generalize w12.heap.size = q11 at *
                      clear hw x13 b11 G12 GH CW1 CW2
                      obtain ⟨t1, t2, t3⟩ := G13.out.B.b4.rules
                      have hc6 : w13.cell? ⟨q4, 6, none⟩ = some (.slice A j c) := G13.out.B.b4.cell 6
                      clear t1
                      have NN := Lib.hid G13.out.N
                      have OA : Own w13 w.heap.size 75 (.slice A j c) j 2 (cWs wa) := by have q := NN.out.R.wa; have e : (mkG l np nf re wa [] 0).R.wait.length = j := LJ.out; rw [e] at q; exact q
                      have OAH := Lib.hid OA
                      have OO : Hid ((w13.alloc (.cells #[.int .i64 u.1, .int .i64 u.2] 75)).ownsRow w.heap.size 75 2 (.slice A j c) j (flat j 2 (cWs wa))) := Lib.hid (OA.alloc _)
                      have HZ : Hid (w.heap.size ≤ (w13.alloc (.cells #[.int .i64 u.1, .int .i64 u.2] 75)).heap.size) := Lib.hid (G13.out.B.d.x.alloc _).below.size
                      clear OA
                      go_wp2_with ((at_builtin; refine wpList_append_lies _ rfl _ _ _ rfl w.heap.size 75 iW (.agg #[.int .i64 0, .int .i64 0]) 2 16 Try.underlying26 hW hW0 hW1 hW2 rfl (by decide) (.slice A j c) j (flat j 2 (cWs wa)) (by rfl) OO.out ⟨w13.heap.size, 0, none⟩ 1 1 [.int .i64 u.1, .int .i64 u.2] (by rfl) (by rfl) (World.news_of_block (heap_alloc_new w13 _)) (by simp [Value.oneCell']) (by omega) (by unfold maxLen; omega) (by omega) HZ.out (w13.heap.size + 1) (by simp) ?_; intro gd cd w15 o15 g15 hat hlt15; have KGH := Lib.hid (grow_keep g15); have O15 := Lib.hid o15; clear o15 g15 hat; clear t2 t3 hc6; have B15 := Lib.hid (G13.out.B.b4.keep KGH.out (fun e => by obtain ⟨_, c, h'⟩ := OAH.out.block e; exact (G13.out.B.b4.ne h' (by decide)) rfl)); obtain ⟨t1, t2, t3⟩ := B15.out.rules))
                      have o11 : w15.ownsRow w.heap.size 75 2 (.slice (some ⟨gd, 0, none⟩) (j + 1) cd) (wa.length + 1) (flat wa.length 2 (cWs wa) ++ [.int .i64 u.1, .int .i64 u.2]) := by
                        rw [LJ.out]; exact O15.out
                      have NP := NewW.pushW NN.out KGH.out o11 U64.out
                      have KTs := kt_set B15.out 6 (.slice (some ⟨gd, 0, none⟩) (j + 1) cd)
                      have D15 : R7At w w15 g S sB := G13.out.B.d.grow KGH.out (fun e => by obtain ⟨_, c, h'⟩ := OAH.out.block e; obtain ⟨_, _, b, _⟩ := G13.out.B.d.ex; exact (b.ne h' (by decide)) rfl) (fun j e => (OAH.out.block e).1)
                      have B2n := G13.out.B.b2.keep KGH.out (fun e => by obtain ⟨_, c, h'⟩ := OAH.out.block e; exact (G13.out.B.b2.ne h' (by decide)) rfl)
                      have T14 : Hid (GW7 w g q2 q4 S sB (mkG l np nf re (wa ++ [u]) [] 0) (xG vL fs vr (.slice (some ⟨gd, 0, none⟩) (j + 1) cd) (.slice none 0 0)) (w15.setCell ⟨q4, 6, none⟩ (.slice (some ⟨gd, 0, none⟩) (j + 1) cd))) := Lib.hid ⟨⟨D15.far n4g h4w 6 _, B2n.far (p := ⟨q4, 6, none⟩) n24 _, B15.out.set 6 _⟩, NP.kt KTs (by decide) (by decide) (by decide) (by decide) (by decide) (by decide)⟩
                      clear o11 NP KTs D15 B2n t1 t2 t3
                      go_roundw
                      case rel => exact ⟨j + 1, by omega, by go_num, wa ++ [u], some ⟨gd, 0, none⟩, cd, by rw [List.length_append, LJ.out]; rfl, by rw [EN2.out]; exact fun z => by rw [HL0.out], by rw [EN2.out]; exact T14.out⟩
                      case measure => simp [intOf] <;> omega
                    | false =>
                      have hng := of_decide_eq_false DD.out
                      have hs3 : (waitsR m s7).2 = (waitsR j s7).2 := by
                        rcases Nat.lt_or_ge j m with q | q
                        · exact WS.out j m hj (fun z => hng ⟨q, z⟩)
                        · obtain rfl : j = m := by omega
                          rfl
                      have LW3 : Hid ((waitsR m s7).2.e = 0 → wa = (waitsR m s7).1) := Lib.hid (fun z => by
                        rcases Nat.lt_or_ge j m with q | q
                        · exact absurd ⟨q, by rw [← hs3]; exact z⟩ hng
                        · obtain rfl : j = m := by omega
                          exact LL.out z)
                      rw [← hs3] at GH
                      have o8 : okB (waitsR m s7).2.b := okB_waits m O7.out
                      have l8 : (waitsR m s7).2.b.length ≤ 65536 := Nat.le_trans (waits_short m s7) L7.out
                      have BK5 : Hid ((waitsR m s7).2.e = 0 → s7.e = 0) := Lib.hid (e_back (fun q => stay_waits m q))
                      have ER3 := ER.out
                      clear ER O7 L7 hng hs3 LL DD WS
                      generalize (waitsR m s7).2 = s8 at *
                      generalize (waitsR m s7).1 = wa0 at *
                      generalize hvw : Value.slice A j c = vw at *
                      clear hvw
                      have o9 := okB_places o8
                      obtain ⟨p0, p1⟩ := numR_in o9
                      have l10 : (numR (placesR s8).2).2.b.length ≤ 65536 := Nat.le_trans (num_short _) (Nat.le_trans (places_short _) l8)
                      have A64 := Lib.hid (num64 o9)
                      have CP2 := Lib.hid (fun W2 (d : R7At w W2 g S s8) => list7 d (by omega) o8 (by omega))
                      have CN3 := Lib.hid (fun W2 (d : R7At w W2 g S (placesR s8).2) => word7 d (by omega) o9)
                      have BK6 : Hid ((placesR s8).2.e = 0 → s8.e = 0) := Lib.hid (e_back (fun q => stay_places q))
                      have BK7 : Hid ((numR (placesR s8).2).2.e = 0 → (placesR s8).2.e = 0) := Lib.hid (e_back (fun q => stay_num q))
                      clear o8 o9
                      generalize (numR (placesR s8).2).2 = s10 at *
                      generalize (numR (placesR s8).2).1 = la at *
                      generalize (placesR s8).2 = s9 at *
                      generalize (placesR s8).1 = du0 at *
                      have EF : Hid (getS b = if (seenR (mkG l0 np nf re0 wa0 du0 la) (overR s10)).e = 0 then (0, some (mkG l0 np nf re0 wa0 du0 la)) else ((seenR (mkG l0 np nf re0 wa0 du0 la) (overR s10)).e, none)) := Lib.hid (by rw [EG.out, ER3]; rfl)
                      clear ER3 EG
                      have lw : IntKind.i64.wrap la = la := IntWalk.i64_in _ (by omega)
                      have CW4 := Lib.hid (fun W2 (d : R7At w W2 g S s10) => wrong7 d 4)
                      obtain ⟨t1, t2, t3⟩ := GH.out.B.b4.rules
                      go_upto_region 25 with (go_at_call 75; refine (CP2.out _ (GH.out.B.d.ext (is_ext _ _))).mono ?_; rintro e w16 ⟨vd, du, rfl, hv, hq, h64, hd, k9⟩; obtain ⟨Ad, cd, ev⟩ := Own.form hv.own; subst ev; have AP16 := Lib.hid (Apart.symm (Own.apart (OwnI.own hv) (GH.out.ext (is_ext _ _)).N.R.re)); have DV16 := Lib.hid (OwnI.low hv (GH.out.ext (is_ext _ _)).B.d.x.below.size); have D64 := Lib.hid h64; have DQ := Lib.hid hq; clear hv hq h64; have G16 := Lib.hid ((GH.out.ext (is_ext _ _)).call GQH.out hd k9); clear hd k9; clear t1 t2 t3; obtain ⟨t1, t2, t3⟩ := G16.out.B.b4.rules)
                      refine wp_name (fun w17 hw => ?_)
                      have G17 : Hid (GW7 w g q2 q4 S s9 (mkG l np nf re wa du 0) (xG vL fs vr vw (.slice Ad du.length cd)) w17) := Lib.hid (by rw [hw]; exact G16.out.setDu GQH.out DV16.out AP16.out D64.out)
                      clear hw t1 t2 t3 G16 GH CP2 D64 AP16 DV16
                      generalize hvd : Value.slice Ad du.length cd = vd at *
                      clear hvd
                      obtain ⟨t1, t2, t3⟩ := G17.out.B.b4.rules
                      go_upto_region 26 with (go_at_call 74; refine (CN3.out _ (G17.out.B.d.ext (is_ext _ _))).mono ?_; rintro e w18 ⟨rfl, hd, k9⟩; have G18 := Lib.hid ((G17.out.ext (is_ext _ _)).call GQH.out hd k9); clear hd k9; clear t1 t2 t3; obtain ⟨t1, t2, t3⟩ := G18.out.B.b4.rules)
                      refine wp_name (fun w19 hw => ?_)
                      have G19 : Hid (GW7 w g q2 q4 S s10 (mkG l np nf re wa du la) (xG vL fs vr vw vd) w19) := Lib.hid (by rw [hw]; exact G18.out.setLa GQH.out A64.out)
                      clear hw t1 t2 t3 G18 G17 CN3 A64 p0 p1
                      have HQ : Hid (s10.e = 0 → (mkG l np nf re wa du la) = (mkG l0 np nf re0 wa0 du0 la)) := Lib.hid (fun z => by
                        have z9 := BK7.out z
                        have z8 := BK6.out z9
                        have z7 := BK5.out z8
                        have z6 := BK4.out z7
                        have z5 := BK3.out z6
                        have z4 := BK2.out z5
                        have z3 := BK1.out z4
                        rw [LL3.out z3, RQ.out z6, LW3.out z8, DQ.out z9])
                      clear BK1 BK2 BK3 BK4 BK5 BK6 BK7 LL3 RQ LW3 DQ
                      obtain ⟨at9, hat9, bb, eb9⟩ := G19.out.B.d.ex
                      have hbl : s10.b.length = S.size - at9 := by rw [eb9, List.length_drop, bytesI_len]
                      have c0 : w19.cell? ⟨g, 1, none⟩ = some (.int .i64 (at9 : Int)) := bb.cell 1
                      have c1 : w19.cell? ⟨g, 2, none⟩ = some (.int .i64 s10.e) := bb.cell 2
                      have hlg := bb.lt
                      clear bb eb9
                      obtain ⟨dd, hdd⟩ : ∃ d, decide (s10.e = 0 ∧ 0 < s10.b.length) = d := ⟨_, rfl⟩
                      have DD := Lib.hid hdd
                      clear hdd
                      go_cut [123] from 110 to 123 (fun v wx => v = .bool dd ∧ wx = w19)
                      case first =>
                        by_cases q : s10.e = 0
                        · have e1 : (s10.e == 0) = true := by simp [q]
                          by_cases q2 : 0 < s10.b.length
                          · have hdd : dd = true := by rw [← DD.out]; exact decide_eq_true ⟨q, q2⟩
                            have hI : (at9 : Int) < (S.size : Int) := by omega
                            subst hdd
                            clear q q2 hbl
                            go_wp2_with fail
                            go_meet
                            exact ⟨rfl, rfl⟩
                          · have hdd : dd = false := by rw [← DD.out]; exact decide_eq_false (fun z => q2 z.2)
                            have hI : ¬ (at9 : Int) < (S.size : Int) := by omega
                            subst hdd
                            clear q q2 hbl
                            go_wp2_with fail
                            go_meet
                            exact ⟨rfl, rfl⟩
                        · have e1 : (s10.e == 0) = false := beq_eq_false_iff_ne.2 q
                          have hdd : dd = false := by rw [← DD.out]; exact decide_eq_false (fun z => q z.1)
                          subst hdd
                          clear q hbl
                          go_wp2_with fail
                          go_meet
                          exact ⟨rfl, rfl⟩
                      case rest =>
                      obtain ⟨rfl, hwc⟩ := hcut
                      subst hwc
                      clear c0 c1 hbl
                      go_upto_if 123 with (fail)
                      go_cut [124] from 125 to 125 (fun v wx => GW7 w g q2 q4 S (overR s10) (mkG l np nf re wa du la) (xG vL fs vr vw vd) wx)
                      case first =>
                        cases dd with
                        | true =>
                          have ES : Hid (overR s10 = wrongR 4 s10) := Lib.hid (by unfold overR; rw [if_pos (of_decide_eq_true DD.out).2])
                          go_wp2_with (go_at_call 76; refine (CW4.out _ (G19.out.B.d.ext (is_ext _ _))).mono ?_; rintro e w20 ⟨rfl, hd, k9⟩; have G20 := Lib.hid ((G19.out.ext (is_ext _ _)).call GQH.out hd k9); clear hd k9)
                          go_meet
                          rw [ES.out]; exact G20.out
                        | false =>
                          have ES : Hid (overR s10 = s10) := Lib.hid (by
                            have z := of_decide_eq_false DD.out
                            by_cases q : s10.e = 0
                            · unfold overR; rw [if_neg (fun y => z ⟨q, y⟩)]
                            · exact stay_over q)
                          go_wp2_with fail
                          go_meet
                          rw [ES.out]; exact G19.out
                      case rest =>
                        have G21 := Lib.hid hcut
                        have HQ2 : Hid ((overR s10).e = 0 → (mkG l np nf re wa du la) = (mkG l0 np nf re0 wa0 du0 la)) := Lib.hid (fun z => HQ.out (e_back (fun q => stay_over q) z))
                        clear hcut CW4 G19 HQ DD l10
                        generalize overR s10 = s11 at *
                        obtain ⟨a8, _, bb, _⟩ := G21.out.B.d.ex
                        have c1 : wc.cell? ⟨g, 2, none⟩ = some (.int .i64 s11.e) := bb.cell 2
                        have hlg := bb.lt
                        clear bb
                        by_cases he : s11.e = 0
                        · have e1 : (s11.e == 0) = true := by simp [he]
                          obtain ⟨cb, hcb⟩ : ∃ cb, checkB (mkG l np nf re wa du la) = cb := ⟨_, rfl⟩
                          have CK := Lib.hid (fun W2 (z : Ext wc W2) => check7 (NewW.at_ (G21.out.N.ext z)))
                          rw [hcb] at CK
                          have CW5 := Lib.hid (fun W2 (d : R7At w W2 g S s11) => wrong7 d 5)
                          have EC := Lib.hid (And.intro he (by rw [← HQ2.out he]; exact hcb : checkB (mkG l0 np nf re0 wa0 du0 la) = cb))
                          have EW := Lib.hid (HQ2.out he)
                          obtain ⟨zL, yL, fL⟩ := Own.form G21.out.N.L
                          obtain ⟨zr, yr, fr⟩ := Own.form G21.out.N.R.re
                          obtain ⟨zw, yw, fw'⟩ := Own.form G21.out.N.R.wa
                          obtain ⟨zd, yd, fd⟩ := Own.form G21.out.N.R.du
                          replace fL : vL = .slice zL l.length yL := fL
                          replace fr : vr = .slice zr re.length yr := fr
                          replace fw' : vw = .slice zw wa.length yw := fw'
                          replace fd : vd = .slice zd du.length yd := fd
                          subst fL fr fw' fd
                          obtain ⟨t1, t2, t3⟩ := G21.out.B.b4.rules
                          simp only [cellsW, mkG, xG] at t1 CK
                          rw [he] at c1
                          clear he hcb HQ2
                          cases cb with
                          | true =>
                            have ES : Hid (getS b = (0, some (mkG l0 np nf re0 wa0 du0 la))) := Lib.hid (by
                              have q : seenR (mkG l0 np nf re0 wa0 du0 la) s11 = s11 := by unfold seenR; rw [if_neg (fun q => by rw [EC.out.2] at q; cases q.2)]
                              rw [EF.out, q, if_pos EC.out.1])
                            go_wp2_with (go_at_call 15; refine (CK.out _ (is_ext _ _)).mono ?_; rintro e w22 ⟨rfl, x22⟩; have G22 := Lib.hid ((G21.out.ext (is_ext _ _)).ext x22); clear x22 c1 hlg; clear t1 t2 t3; obtain ⟨t1, t2, t3⟩ := G22.out.B.b4.rules; simp only [cellsW, mkG, xG] at t1; obtain ⟨a7, _, bb, _⟩ := G22.out.B.d.ex; have c1 : w22.cell? ⟨g, 2, none⟩ = some (.int .i64 0) := (by rw [← EC.out.1]; exact bb.cell 2); have hlg := bb.lt; clear bb; obtain ⟨z1, z2, z3⟩ := G22.out.B.b2.rules; unfold zeroWc at z1)
                            have KP := keepZ w22 q2 (.slice zL l.length yL) (.slice none 0 0) (.int .i64 la) (.int .i64 np) (.int .i64 nf) (.slice zr re.length yr) (.slice zw wa.length yw) (.slice zd du.length yd) (.string ByteArray.empty) (.string ByteArray.empty) (.int .i64 0) (.int .i64 0) (.slice none 0 0)
                            have KPT : KT [31] w22 _ := Keep.mono KP (fun j e => by subst e; exact ⟨_, _, by simp, G22.out.B.b2⟩)
                            have NF := G22.out.N.kt KPT (by decide) (by decide) (by decide) (by decide) (by decide) (by decide)
                            refine bodyPost_ret (v := .tuple #[.agg #[.slice zL l.length yL, .slice none 0 0, .int .i64 la, .int .i64 np, .int .i64 nf, .slice zr re.length yr, .slice zw wa.length yw, .slice zd du.length yd, .string ByteArray.empty, .string ByteArray.empty, .int .i64 0, .int .i64 0, .slice none 0 0], .int .i64 0]) (by simp [results, Try.results30, go_sem, z1] <;> rfl) rfl ?_
                            unfold PostG
                            rw [ES.out]
                            refine ⟨_, rfl, (fun h => by cases h), (fun W' hW' => ?_), extZ G22.out.B.d.x GQH.out.h2 (.slice zL l.length yL) (.slice none 0 0) (.int .i64 la) (.int .i64 np) (.int .i64 nf) (.slice zr re.length yr) (.slice zw wa.length yw) (.slice zd du.length yd) (.string ByteArray.empty) (.string ByteArray.empty) (.int .i64 0) (.int .i64 0) (.slice none 0 0)⟩
                            injection hW' with hW'
                            subst hW'
                            rw [← EW.out]
                            exact ⟨_, rfl, NF⟩
                          | false =>
                            have ES : Hid (getS b = (5, none)) := Lib.hid (by
                              have q : seenR (mkG l0 np nf re0 wa0 du0 la) s11 = wrongR 5 s11 := by unfold seenR; rw [if_pos EC.out]
                              have q2 : (wrongR 5 s11).e = 5 := by unfold wrongR; rw [if_pos EC.out.1]
                              rw [EF.out, q, q2, if_neg (by omega)])
                            have W5 : Hid ((wrongR 5 s11).e = 5) := Lib.hid (by unfold wrongR; rw [if_pos EC.out.1])
                            go_upto_region 31 with ((first | (go_at_call 76; refine (CW5.out _ G22.out.B.d).mono ?_; rintro e w23 ⟨rfl, hd, k9⟩; have G23 := Lib.hid (G22.out.call GQH.out hd k9); clear hd k9 c1 hlg; obtain ⟨a7, _, bb, _⟩ := G23.out.B.d.ex; have c1 : w23.cell? ⟨g, 2, none⟩ = some (.int .i64 5) := (by rw [← W5.out]; exact bb.cell 2); have hlg := bb.lt; clear bb; obtain ⟨z1, z2, z3⟩ := G23.out.B.b2.rules; unfold zeroWc at z1) | (go_at_call 15; refine (CK.out _ (is_ext _ _)).mono ?_; rintro e w22 ⟨rfl, x22⟩; have G22 := Lib.hid ((G21.out.ext (is_ext _ _)).ext x22); clear x22; clear t1 t2 t3)))
                            go_region_held3 (fun w' => w'.cell? ⟨g, 2, none⟩ = some (.int .i64 5)) (first | go_keep | exact c1) (fail)
                            all_goals
                              go_wp2_with fail
                              refine bodyPost_ret (v := .tuple #[.agg zeroWc, .int .i64 5]) (by simp [results, Try.results30, go_sem, z1, zeroWc] <;> rfl) rfl ?_
                              unfold PostG
                              rw [ES.out]
                              exact ⟨_, rfl, fun _ => rfl, (fun W' hW' => by cases hW'), (extZ G23.out.B.d.x GQH.out.h2 (.slice none 0 0) (.slice none 0 0) (.int .i64 0) (.int .i64 0) (.int .i64 0) (.slice none 0 0) (.slice none 0 0) (.slice none 0 0) (.string ByteArray.empty) (.string ByteArray.empty) (.int .i64 0) (.int .i64 0) (.slice none 0 0)).drew⟩
                        · have e1 : (s11.e == 0) = false := beq_eq_false_iff_ne.2 he
                          have e2 : (s11.e != 0) = true := by simp [he]
                          have ES : Hid (getS b = (s11.e, none)) := Lib.hid (by rw [EF.out, stay_seen he, if_neg he])
                          clear he
                          rename World => w99
                          obtain ⟨a9, _, bb, _⟩ := G21.out.B.d.ex
                          have c1 : w99.cell? ⟨g, 2, none⟩ = some (.int .i64 s11.e) := bb.cell 2
                          have hlg := bb.lt
                          have z1 := G21.out.B.b2.rules.1
                          have z2 := G21.out.B.b2.rules.2
                          unfold zeroWc at z1
                          clear bb
                          go_upto_region 31 with (fail)
                          go_region_held3 (fun w' => w'.cell? ⟨g, 2, none⟩ = some (.int .i64 s11.e)) (first | go_keep | exact c1) (fail)
                          all_goals
                            go_wp2_with fail
                            refine bodyPost_ret (v := .tuple #[.agg zeroWc, .int .i64 s11.e]) (by simp [results, Try.results30, go_sem, z1, zeroWc] <;> rfl) rfl ?_
                            unfold PostG
                            rw [ES.out]
                            exact ⟨_, rfl, fun _ => rfl, (fun W' hW' => by cases hW'), (extZ G21.out.B.d.x GQH.out.h2 (.slice none 0 0) (.slice none 0 0) (.int .i64 0) (.int .i64 0) (.int .i64 0) (.slice none 0 0) (.slice none 0 0) (.slice none 0 0) (.string ByteArray.empty) (.string ByteArray.empty) (.int .i64 0) (.int .i64 0) (.slice none 0 0)).drew⟩
end
end Go.Proofs.Ytadhkmplhgcgkaa.World
