/-
  The walk of the law ThingCopies.
-/
import Derived.Test.YtnhijjcplnomgaaGreatCopB
import Derived.Test.YtnhijjcplnomgaaGreatStart
import Derived.Test.YtnhijjcplnomgaaGreatIRow
import Derived.Test.YtnhijjcplnomgaaGreatWord
import Derived.Deep.AppendLies
namespace Go.Proofs.YtnhijjcplnomgaaGreat.World
open Go.RowKit Go.Proofs.YtnhijjcplnomgaaGreat.Plain
set_option linter.unusedVariables false
attribute [local go_sem ↓] Go.wp_at_zero Go.wp_at_succ
def cpz (z : List Int) (i : Nat) : Int := z.getD i 0 % 256
def fldsC (z : List Int) (k : Nat) : List PV := (List.range k).map (fun i => num (cpz z i))
def bytesC (z : List Int) (k : Nat) : ByteArray := strOfNums ((List.range k).map (cpz z))
theorem fldsC_len (z : List Int) (k : Nat) : (fldsC z k).length = k := by unfold fldsC; simp
theorem fldsC_succ (z : List Int) (k : Nat) : fldsC z (k + 1) = fldsC z k ++ [num (cpz z k)] := by unfold fldsC; rw [List.range_succ, List.map_append]; rfl
theorem fldsC_nums (z : List Int) (k : Nat) : numsF (fldsC z k) := fun j hj => by
  rw [fldsC_len] at hj
  refine ⟨cpz z j, ?_, by unfold cpz; omega, by unfold cpz; omega⟩
  unfold vAt fldsC
  rw [List.getD_eq_getElem?_getD, List.getElem?_map, List.getElem?_range hj]; rfl
theorem bytesC_size (z : List Int) (k : Nat) : (bytesC z k).size = k := by unfold bytesC; rw [strOfNums_size]; simp
theorem strOfNums_app (a b : List Int) : strOfNums (a ++ b) = strOfNums a ++ strOfNums b := by
  apply ByteArray.ext
  apply Array.toList_inj.1
  rw [ByteArray.data_append, Array.toList_append, strOfNums_data, strOfNums_data, strOfNums_data, List.map_append]
theorem bytesC_succ (z : List Int) (k : Nat) : bytesC z (k + 1) = bytesC z k ++ strOfNums [cpz z k] := by unfold bytesC; rw [List.range_succ, List.map_append, strOfNums_app]; rfl
theorem conv1 (w : World) (a : Int) : Sem.run Tryz.prog (convert 37 9 (.slice (some ⟨w.heap.size, 0, none⟩) 1 1)) (w.alloc (.cells #[.int .u8 a] 5)) = .ok (.string (strOfNums [a])) (w.alloc (.cells #[.int .u8 a] 5)) := by
  have hb := Blk.new w 5 #[.int .u8 a]
  exact run_convert_bytes_arg _ 37 5 Tryz.underlying37 Tryz.underlying5 w.heap.size 0 1 1 [a] rfl (fun i hi => by
    have hi : i < 1 := hi
    rw [Nat.zero_add, hb.cell]
    rcases i with _ | i
    · rfl
    · omega) 9 Tryz.underlying9
/-- a slice of fields in new memory -/
structure VA (hz : Nat) (W : World) (vF : Value) (Fl : List PV) : Prop where
  vals : ValsAt W vF Fl
  typ : Typ W vF 40
  new : ∀ k, vF.ownBlock = some k → hz ≤ k
theorem VA.ext {hz : Nat} {W W' : World} {vF : Value} {Fl : List PV} (h : VA hz W vF Fl) (x : Ext W W') : VA hz W' vF Fl := ⟨Row.ext h.vals x, fun k hk => by obtain ⟨cs, b⟩ := h.typ k hk; exact ⟨cs, b.ext x⟩, h.new⟩
theorem VA.mono {hz hz' : Nat} {W : World} {vF : Value} {Fl : List PV} (h : VA hz' W vF Fl) (x : hz ≤ hz') : VA hz W vF Fl := ⟨h.vals, h.typ, fun k hk => Nat.le_trans x (h.new k hk)⟩
theorem VA.far {hz g : Nat} {W W' : World} {vF : Value} {Fl : List PV} {cs : Array Value} (h : VA hz W vF Fl) (b : Blk W g 62 cs) (k : Keep (· = g) W W') : VA hz W' vF Fl := by
  have ne : ∀ j, vF.ownBlock = some j → ¬ j = g := fun j hj e => by
    obtain ⟨cs', b'⟩ := h.typ j hj
    exact b'.ne b (by decide) e
  exact ⟨Row.far h.vals k ne, fun j hj => by obtain ⟨cs', b'⟩ := h.typ j hj; exact ⟨cs', b'.keep k (ne j hj)⟩, h.new⟩
theorem VA.keep {hz : Nat} {F : Nat → Prop} {W W' : World} {vF : Value} {Fl : List PV} (h : VA hz W vF Fl) (k : Keep F W W') (hF : ∀ j, hz ≤ j → ¬ F j) : VA hz W' vF Fl :=
  ⟨Row.far h.vals k (fun j hj => hF j (h.new j hj)), fun j hj => by obtain ⟨cs', b'⟩ := h.typ j hj; exact ⟨cs', b'.keep k (hF j (h.new j hj))⟩, h.new⟩
structure R20I (wz : World) (m g13 : Nat) (c fm : Int) (Bt : ByteArray) (Fl : List PV) (L : Nat → Bool) (s : Nat → Value) (W : World) : Prop where
  v0 : L 0 = true → s 85 = .pointer (some ⟨m, 0, none⟩)
  v1 : L 1 = true → s 86 = .int .i64 23
  v3 : L 3 = true → s 88 = .pointer (some ⟨m, 0, none⟩)
  v4 : L 4 = true → s 89 = .pointer (some ⟨g13, 1, none⟩)
  v5 : L 5 = true → s 90 = .int .i64 24
  x : Ext wz W
  c6 : L 6 = true → L 2 = true
  c9 : L 9 = true → L 6 = true
  c9b : L 9 = true → L 7 = true
  c10 : L 10 = true → L 9 = true
  c10b : L 10 = true → L 8 = true
  va : L 2 = true → ∃ va vc, s 87 = .agg #[.int .i64 c, .int .i64 fm, .int .i64 24, .bool false, .slice va Fl.length vc, .string Bt] ∧ VA wz.heap.size W (.slice va Fl.length vc) Fl
  vb : L 6 = true → ∃ va vc, s 91 = .agg #[.int .i64 c, .int .i64 fm, .int .i64 25, .bool false, .slice va Fl.length vc, .string Bt] ∧ VA wz.heap.size W (.slice va Fl.length vc) Fl
  za : L 7 = true → L 9 = false → ∃ g, s 15 = .pointer (some ⟨g, 0, none⟩) ∧ wz.heap.size ≤ g ∧ Blk W g 62 #[.int .i64 0, .int .i64 0, .int .i64 0, .bool false, .slice none 0 0, .string ByteArray.empty]
  zb : L 9 = true → ∃ g va vc, s 15 = .pointer (some ⟨g, 0, none⟩) ∧ wz.heap.size ≤ g ∧ Blk W g 62 #[.int .i64 c, .int .i64 fm, .int .i64 24, .bool false, .slice va Fl.length vc, .string Bt] ∧ VA wz.heap.size W (.slice va Fl.length vc) Fl
  ya : L 8 = true → L 10 = false → ∃ g, s 16 = .pointer (some ⟨g, 0, none⟩) ∧ wz.heap.size ≤ g ∧ Blk W g 62 #[.int .i64 0, .int .i64 0, .int .i64 0, .bool false, .slice none 0 0, .string ByteArray.empty]
  yb : L 10 = true → ∃ g va vc, s 16 = .pointer (some ⟨g, 0, none⟩) ∧ wz.heap.size ≤ g ∧ Blk W g 62 #[.int .i64 c, .int .i64 fm, .int .i64 25, .bool false, .slice va Fl.length vc, .string Bt] ∧ VA wz.heap.size W (.slice va Fl.length vc) Fl
  dd : L 7 = true → L 8 = true → s 15 ≠ s 16
def frR20 (m g13 : Nat) (u s : Nat → Value) : Act := { tmps := #[u 0, u 1, u 2, u 3, u 4, u 5, u 6, u 7, u 8, u 9, .int .i64 23, .pointer (some ⟨m, 0, none⟩), u 12, .pointer (some ⟨g13, 0, none⟩), u 14, s 15, s 16, u 17, u 18, u 19, u 20, u 21, u 22, u 23, u 24, u 25, u 26, u 27, u 28, u 29, u 30, u 31, u 32, u 33, u 34, u 35, u 36, u 37, u 38, u 39, u 40, u 41, u 42, u 43, u 44, u 45, u 46, u 47, u 48, u 49, u 50, u 51, u 52, u 53, u 54, u 55, u 56, u 57, u 58, u 59, u 60, u 61, u 62, u 63, u 64, u 65, u 66, u 67, u 68, u 69, u 70, u 71, u 72, u 73, u 74, u 75, u 76, u 77, u 78, u 79, u 80, u 81, u 82, u 83, u 84, s 85, s 86, s 87, s 88, s 89, s 90, s 91, u 92, u 93, u 94, u 95, u 96, u 97, u 98, u 99, u 100, u 101, u 102, u 103, u 104, u 105, u 106, u 107, u 108, u 109, u 110, u 111, u 112, u 113, u 114, u 115, u 116, u 117, u 118, u 119, u 120, u 121], defers := [] }
def R20Inv (wz : World) (m g13 : Nat) (c fm : Int) (Bt : ByteArray) (Fl : List PV) (u : Nat → Value) (listed : Array Bool) (act : Act) (W : World) : Prop :=
  ∃ L : Nat → Bool, (∀ k, listed.getD k false = L k) ∧ ∃ s : Nat → Value, act = frR20 m g13 u s ∧ listed.size = 11 ∧ R20I wz m g13 c fm Bt Fl L s W
structure R26I (wz : World) (m g13 : Nat) (S P : MS) (F7 F8 : Nat → Prop) (L : Nat → Bool) (s : Nat → Value) (W : World) : Prop where
  v0 : L 0 = true → s 103 = .pointer (some ⟨m, 0, none⟩)
  v1 : L 1 = true → s 104 = .agg #[.bool true, .int .i64 24]
  v2 : L 2 = true → s 105 = .agg #[.bool false, .int .i64 1]
  v3 : L 3 = true → s 106 = .agg #[.bool false, .int .i64 7]
  v5 : L 5 = true → s 108 = .tuple #[.agg #[.bool false, .int .i64 7], .bool true]
  v6 : L 6 = true → s 102 = .tuple #[.agg #[.bool false, .int .i64 7], .bool true]
  v7 : L 7 = true → s 109 = .agg #[.bool false, .int .i64 7]
  v8 : L 8 = true → s 110 = .bool true
  v11 : L 11 = true → s 18 = .bool true
  ma : L 5 = false → M W F8 m S
  mb : L 5 = true → M W F8 m P
  mv : Mov F7 F8 wz W
  c6 : L 6 = true → L 5 = true
  c7 : L 7 = true → L 6 = true
  sl : L 4 = true → L 5 = false → ∃ gs, s 107 = .slice (some ⟨gs, 0, none⟩) 2 2 ∧ Blk W gs 40 #[.bool false, .int .i64 1, .bool false, .int .i64 7] ∧ ¬ F8 gs
  k10 : L 10 = true → L 9 = true
  za : L 9 = true → L 10 = false → ∃ g, s 17 = .pointer (some ⟨g, 0, none⟩) ∧ wz.heap.size ≤ g ∧ Blk W g 40 #[.bool false, .int .i64 0] ∧ ¬ F8 g
  zb : L 10 = true → ∃ g, s 17 = .pointer (some ⟨g, 0, none⟩) ∧ wz.heap.size ≤ g ∧ Blk W g 40 #[.bool false, .int .i64 7] ∧ ¬ F8 g
def frR26 (m g13 ga gb : Nat) (u s : Nat → Value) : Act := { tmps := #[u 0, u 1, u 2, u 3, u 4, u 5, u 6, u 7, u 8, u 9, .int .i64 23, .pointer (some ⟨m, 0, none⟩), u 12, .pointer (some ⟨g13, 0, none⟩), u 14, .pointer (some ⟨ga, 0, none⟩), .pointer (some ⟨gb, 0, none⟩), s 17, s 18, u 19, u 20, u 21, u 22, u 23, u 24, u 25, u 26, u 27, u 28, u 29, u 30, u 31, u 32, u 33, u 34, u 35, u 36, u 37, u 38, u 39, u 40, u 41, u 42, u 43, u 44, u 45, u 46, u 47, u 48, u 49, u 50, u 51, u 52, u 53, u 54, u 55, u 56, u 57, u 58, u 59, u 60, u 61, u 62, u 63, u 64, u 65, u 66, u 67, u 68, u 69, u 70, u 71, u 72, u 73, u 74, u 75, u 76, u 77, u 78, u 79, u 80, u 81, u 82, u 83, u 84, u 85, u 86, u 87, u 88, u 89, u 90, u 91, u 92, u 93, u 94, u 95, u 96, u 97, u 98, u 99, u 100, u 101, s 102, s 103, s 104, s 105, s 106, s 107, s 108, s 109, s 110, u 111, u 112, u 113, u 114, u 115, u 116, u 117, u 118, u 119, u 120, u 121], defers := [] }
def R26Inv (wz : World) (m g13 ga gb : Nat) (S P : MS) (F7 : Nat → Prop) (u : Nat → Value) (listed : Array Bool) (act : Act) (W : World) : Prop :=
  ∃ L : Nat → Bool, (∀ k, listed.getD k false = L k) ∧ ∃ (s : Nat → Value) (F8 : Nat → Prop), act = frR26 m g13 ga gb u s ∧ listed.size = 12 ∧ R26I wz m g13 S P F7 F8 L s W
set_option maxRecDepth 100000 in
set_option maxHeartbeats 1000000 in
theorem copies_array (a0 : Option Addr) (len0 cap0 : Nat) (z0 : List Int) (w : World) (w0 : IRow .i64 w a0 len0 cap0 z0) :
    Calls Tryz.prog 10 #[.slice a0 len0 cap0, .bool false] w fun e w' => e = .returned (.bool true) ∧ Below w.heap.size w w' := by
  obtain ⟨hr, hz, hl⟩ := w0.reads
  have HR := Lib.hid hr
  clear hr w0
  have HF := Lib.hid (@first_ w)
  have HN := Lib.hid lnum
  have HO := Lib.hid lobj
  unfold val num at HN
  unfold val objV at HO
  obtain ⟨n, hn⟩ : ∃ n, n = min len0 40 := ⟨_, rfl⟩
  have n1 : n ≤ len0 := by omega
  have n2 : n ≤ 40 := by omega
  have hn1 : (if (40 : Int) < (len0 : Int) then (40 : Int) else (len0 : Int)) = (n : Int) := by split <;> omega
  have hn2 : (if 40 < len0 then (40 : Int) else (len0 : Int)) = (n : Int) := by split <;> omega
  have hn3 : (if (len0 : Int) < 40 then (len0 : Int) else (40 : Int)) = (n : Int) := by split <;> omega
  clear hn
  go_enter Tryz.func10, Tryz.ntmps10
  go_wp2_with fail
  refine HF.out.mono ?_
  clear HF
  rintro e w1 ⟨xw, rfl, b1, x1'⟩
  obtain ⟨vL, fs, vD, vRe, vWa, vDu, vSn⟩ := xw
  obtain ⟨y1, y2, y3, y4, y5⟩ := b1.bare
  simp only at y1 y2 y3 y4 y5
  subst y1 y2 y3 y4 y5
  obtain ⟨A, cp, hA⟩ := b1.L.form
  have hA : vL = .slice A 23 cp := hA
  subst hA
  unfold cellsW firstW regs0
  go_upto_region 2 with (fail)
  refine wp_name (fun w2 hW => ?_)
  have xb : Ext w1 w2 := by rw [hW]; exact is_ext _ _
  have B2 : BAt w2 w.heap.size w1.heap.size firstW ⟨.slice A 23 cp, fs, .slice none 0 0, .slice none 0 0, .slice none 0 0, .slice none 0 0, .slice none 0 0⟩ := ⟨by rw [hW]; exact Blk.new _ _ _, b1.ext xb⟩
  have X2 := Lib.hid (x1'.trans xb)
  have BH := Lib.hid B2
  have s1 := x1'.below.size
  clear hW B2 b1 x1' xb
  generalize hb : w1.heap.size = b at *
  obtain ⟨iV, iV1, iV2, iV3, iV4⟩ := info_parts infoV
  obtain ⟨hh, hhh⟩ : ∃ q, w2.heap.size = q := ⟨_, rfl⟩
  go_wp2_with fail
  go_loopw [6, 7, 9] (fun v sv iv wr => ∃ k : Nat, k ≤ n ∧ iv = .int .i64 k ∧ sv = .string (bytesC z0 k) ∧ (∃ A c, v = .slice A k c ∧ Own wr hh 40 (.slice A k c) k 2 (cF (fldsC z0 k))) ∧ Ext w2 wr) (fun _ _ iv _ => n - (intOf iv).toNat)
  case atStart => exact ⟨0, by omega, rfl, rfl, ⟨none, 0, rfl, World.ownsRow_nil _ _ _ _⟩, Ext.refl _⟩
  case round =>
    obtain ⟨k, hk, rfl, rfl, ⟨A1, c1, rfl, ok⟩, xk⟩ := hrel
    clear hn1 hn2 hn3
    have XK := Lib.hid xk
    have OK := Lib.hid ok
    by_cases hlt : k < n
    · have iI : (k : Int) < (n : Int) := by omega
      have iL : (k : Int) < (len0 : Int) := by omega
      obtain ⟨rb, roff, rfl, hrb, hrc, hwf⟩ := HR.out k (by omega)
      have c0 := ((X2.out.trans xk).below.cell (p := ⟨rb, roff + k, none⟩) hrb).trans hrc
      have C0 := Lib.hid (fun W (x : Ext w W) => (x.below.cell (p := ⟨rb, roff + k, none⟩) hrb).trans hrc)
      obtain ⟨z1, z2⟩ := bounds_i64 hwf
      have hrb2 : rb < wr.heap.size := by have := (X2.out.trans xk).below.size; omega
      have HRB := Lib.hid hrb
      have PS := bytesC_succ z0 k
      have PF := fldsC_succ z0 k
      unfold cpz at PS PF
      generalize hzz : z0.getD k 0 = z at *
      have PSH := Lib.hid PS
      have PFH := Lib.hid PF
      clear xk ok hrc hwf PS PF hzz
      have hle : hh ≤ wr.heap.size := by have := XK.out.below.size; omega
      go_upto_region 9 with (first | (go_at_call 13; refine (Word.place _ _ _ (by omega) (by omega) (by omega) (by omega)).mono ?_; rintro e w' ⟨rfl, rfl⟩) | (go_at_call 15; refine (HN.out _ _).mono ?_; rintro e w3 ⟨rfl, x3⟩; have X3 := Lib.hid (XK.out.trans x3); have O3 : Hid (w3.ownsRow hh 40 2 (.slice A1 k c1) k (flat k 2 (cF (fldsC z0 k)))) := Lib.hid (OK.out.ext x3); have s3 := x3.below.size; clear x3) | (at_builtin; refine wpList_append_lies _ rfl _ _ _ rfl hh 40 iV (.agg #[.bool false, .int .i64 0]) 2 16 Tryz.underlying42 iV1 iV2 iV3 iV4 rfl (by decide) _ _ _ (by rfl) (World.ownsRow.alloc O3.out _) ⟨w3.heap.size, 0, none⟩ 1 1 [.bool false, .int .i64 (z % 256)] (by rfl) (by rfl) (World.news_of_block (heap_alloc_new w3 _)) (by simp [Value.oneCell']) (by omega) (by unfold maxLen; omega) (by omega) (by simp; omega) (w3.heap.size + 1) (by simp) ?_; intro gg c9 w4 o4 g4 hat hlt4))
      have X4 : Hid (Ext w2 w4) := Lib.hid (by
        have kp := grow_keep g4
        refine Ext.of_below (Keep.below X3.out.below kp X3.out.below.size (fun i hi e => ?_))
        have o2 : Own w3 hh 40 (.slice A1 k c1) k 2 (cF (fldsC z0 k)) := O3.out
        have := (o2.block e).1
        omega)
      have O4 : Hid (Own w4 hh 40 (.slice (some ⟨gg, 0, none⟩) (k + 1) c9) (k + 1) 2 (cF (fldsC z0 (k + 1)))) := Lib.hid (by
        have q := own_val (v := num (z % 256)) (fldsC_len z0 k) o4
        rw [← PFH.out, fldsC_len] at q
        exact q)
      have c4 := C0.out w4 (X2.out.trans X4.out)
      have hrb4 : rb < w4.heap.size := by have := (X2.out.trans X4.out).below.size; have := HRB.out; omega
      have HC := conv1 w4 (z % 256)
      have hwr : IntKind.u8.wrap z = z % 256 := by rw [IntKind.wrap_u8]
      have SZ : (bytesC z0 k).size = k := bytesC_size z0 k
      generalize bytesC z0 k = s at *
      obtain ⟨s', hs'⟩ : ∃ s', s' = bytesC z0 (k + 1) := ⟨_, rfl⟩
      have hadd : ∀ W : World, Sem.run Tryz.prog (Op.stringOp .add s (strOfNums [z % 256])) W = .ok (.string (s ++ strOfNums [z % 256])) W := fun W => run_string_add_sum W _ _ (by rw [SZ, strOfNums_size]; simp only [List.length_cons, List.length_nil]; omega)
      rw [← PSH.out, ← hs'] at hadd
      have HS' := Lib.hid hs'
      clear o4 g4 hat hlt4 O3 X3 XK OK c0 C0 hrb2 PSH PFH hs' SZ hle s3
      go_wp2_with fail
      go_roundw
      case rel => exact ⟨k + 1, by omega, by go_num, by rw [← HS'.out], ⟨_, _, rfl, O4.out.ext (is_ext _ _)⟩, X4.out.alloc _⟩
      case measure => simp [intOf]; omega
    · obtain rfl : n = k := by omega
      have lo1 : w.heap.size ≤ wr.heap.size := (X2.out.trans XK.out).below.size
      have BK := Lib.hid (BH.out.ext XK.out)
      have XR := Lib.hid (X2.out.trans XK.out)
      clear xk ok hlt
      obtain ⟨Fl, hFl⟩ : ∃ q, fldsC z0 n = q := ⟨_, rfl⟩
      have HNU : Hid (numsF Fl) := Lib.hid (by rw [← hFl]; exact fldsC_nums z0 n)
      have lenF : Fl.length = n := by rw [← hFl]; exact fldsC_len z0 n
      rw [hFl] at OK
      have vv : ValsAt wr (.slice A1 n c1) Fl := by
        have q := OK.out.row
        show Row wr _ Fl.length 2 _
        rw [lenF]; exact q
      have C1 := Lib.hid (badd BK.out lo1 vv (own_typ OK.out) 7 1 ByteArray.empty (by decide) (by decide))
      have HLF := Lib.hid lenF
      clear vv OK XK hFl lenF
      go_wp2_with fail
      refine C1.out.mono ?_
      rintro e wA ⟨rfl, vA, bA, kA⟩
      have XA : Hid (Ext w wA) := Lib.hid (Ext.of_below (Keep.below XR.out.below kA XR.out.below.size (fun i hi h => by
        rcases h with h | h
        · omega
        · have := (BK.out.bu.L.block h).1; omega)))
      have ck := arW_check HNU.out (by rw [HLF.out]; exact n2)
      have bA' : BAt wA w.heap.size b (arW Fl) vA := bA
      have CN := Lib.hid (objnew (W := arW Fl) (bA'.bu.at_ (nums_of_check ck)) ck rfl 5)
      obtain ⟨p1, p2, p3⟩ := bA'.blk.rules
      unfold cellsW at p1
      unfold cellsW at CN
      clear bA bA' kA C1 BK XR ck X2 BH
      rw [show ((firstW.L.length : Nat) : Int) = 23 from rfl]
      have MKH : Hid (∀ W F' m, M W F' m (newS (arW Fl) 5) → M W F' m (arS Fl)) := Lib.hid (fun _ _ _ h => h)
      generalize arW Fl = W0 at *
      go_wp2_with fail
      refine CN.out.mono ?_
      rintro e wC ⟨m, F, rfl, mC0, hF, xC⟩
      have mC := MKH.out _ _ _ mC0
      have XC := Lib.hid (XA.out.trans xC)
      have FL : Hid (∀ k, F k → w.heap.size ≤ k) := Lib.hid (fun k hk => by have := hF k hk; have := XA.out.below.size; omega)
      have LTC := Lib.hid mC.lt
      obtain ⟨a1, a2, a3, a4, a5⟩ := ar_make HNU.out (by rw [HLF.out]; exact n2)
      have phS : (arS Fl).phase ≠ 1 := by rw [(ar_std HNU.out (by rw [HLF.out]; exact n2)).ph]; decide
      have C33 : Hid (∀ W [x : IsExt wC W], Calls Tryz.prog 27 #[.pointer (some ⟨m, 0, none⟩), .int .i64 33, .agg #[.bool true, .int .i64 23], .slice none 0 0] W fun e w' => e = .returned (.tuple #[.agg #[.bool true, .int .i64 24], .bool true]) ∧ Goes F m (arL Fl Fl.length) W w') := Lib.hid (fun W x =>
        pop33 (mC.ext x.out) 23 (ar_has Fl) true true 24 (arL Fl Fl.length) (fun W1 y1 => pa33 ((mC.ext x.out).ext y1) 23 true true 24 (arL Fl Fl.length) (fun W2 y2 => ptwinF (((mC.ext x.out).ext y1).ext y2) phS 23 7 24 Fl.length (by rw [HLF.out]; omega) (ar_cls Fl) a4 a5 (ar_size Fl) (ar_fmt Fl) (by omega) (arL Fl) a1 a2 a3 (fun i hi => ar_step HNU.out (by rw [HLF.out]; exact n2) i hi))))
      clear a1 a2 a3 a4 a5 phS
      have AE := Lib.hid (ar_end HNU.out (by rw [HLF.out]; exact n2))
      rw [HLF.out] at C33 AE
      generalize arL Fl n = T at *
      have iC : IsExt wC wC := ⟨Ext.refl _⟩
      clear hF mC mC0 xC CN p1 p2 p3 XA MKH
      go_wp2_with (go_at_call 16; refine (HO.out _ _).mono ?_; rintro e w8 ⟨rfl, x8⟩; have i8 : IsExt wC w8 := ⟨(is_ext wC _).trans x8⟩; clear x8)
      refine (C33.out _).mono ?_
      rintro e wD ⟨rfl, F2, mD, vD⟩
      have X8 := Lib.hid (XC.out.trans i8.out)
      have XD : Hid (Ext w wD) := Lib.hid (Ext.of_below (Keep.below X8.out.below vD.keep X8.out.below.size (fun i hi h => by have := FL.out i h; omega)))
      have FL2 : Hid (∀ k, F2 k → w.heap.size ≤ k) := Lib.hid (fun k hk => by
        rcases vD.new k hk with h | h
        · exact FL.out k h
        · have := X8.out.below.size; omega)
      have MD := Lib.hid mD
      have LTD := Lib.hid mD.lt
      clear mD vD C33 XC FL i8 iC LTC X8
      go_upto_region 20 with (fail)
      refine wp_name (fun wz hW => ?_)
      have xz : Ext wD wz := by rw [hW]; exact is_ext _ _
      have BZ : Hid (Blk wz wD.heap.size 40 #[.bool true, .int .i64 24]) := Lib.hid (by rw [hW]; exact Blk.new _ _ _)
      have NZ : Hid (¬ F2 wD.heap.size) := Lib.hid (fun hf => by have := LTD.out _ hf; omega)
      have MZ := Lib.hid (MD.out.ext xz)
      have XZ := Lib.hid (XD.out.trans xz)
      clear hW xz MD XD LTD
      generalize wD.heap.size = g13 at *
      have CA : Hid (∀ W [x : IsExt wz W], Calls Tryz.prog 26 #[.pointer (some ⟨m, 0, none⟩), .int .i64 23] W fun e w' => ∃ va vc, e = .returned (.agg #[.int .i64 7, .int .i64 1, .int .i64 24, .bool false, .slice va Fl.length vc, .string ByteArray.empty]) ∧ VA W.heap.size w' (.slice va Fl.length vc) Fl ∧ Ext W w') := Lib.hid (fun W x => by
        obtain ⟨h1, h2, h3⟩ := AE.out.1
        have q := mthingF (MZ.out.ext x.out) 23 h1 (by rw [h2]; decide)
        rw [h3] at q
        exact q.mono (fun e w' ⟨vF, he, ow, hx⟩ => by
          obtain ⟨va, vc, hva⟩ := ow.form
          subst hva
          exact ⟨va, vc, he, ⟨ow.row, own_typ ow, fun k hk => (ow.block hk).1⟩, hx⟩)
        )
      have CB : Hid (∀ W [x : IsExt wz W], Calls Tryz.prog 26 #[.pointer (some ⟨m, 0, none⟩), .int .i64 24] W fun e w' => ∃ va vc, e = .returned (.agg #[.int .i64 7, .int .i64 1, .int .i64 25, .bool false, .slice va Fl.length vc, .string ByteArray.empty]) ∧ VA W.heap.size w' (.slice va Fl.length vc) Fl ∧ Ext W w') := Lib.hid (fun W x => by
        obtain ⟨_, h1, h2, h3, _⟩ := AE.out
        have q := mthingF (MZ.out.ext x.out) 24 h1 (by rw [h2]; decide)
        rw [h3] at q
        exact q.mono (fun e w' ⟨vF, he, ow, hx⟩ => by
          obtain ⟨va, vc, hva⟩ := ow.form
          subst hva
          exact ⟨va, vc, he, ⟨ow.row, own_typ ow, fun k hk => (ow.block hk).1⟩, hx⟩)
        )
      refine wp_any_act (fun A hA => ?_)
      have eA : A = frR20 m g13 (fun q => A.tmps.getD q undef) (fun q => A.tmps.getD q undef) := by rw [hA]; rfl
      obtain ⟨uu, huu⟩ : ∃ uu, (fun q => A.tmps.getD q undef) = uu := ⟨_, rfl⟩
      rw [huu] at eA
      rw [hA] at huu
      have HU := Lib.hid huu
      clear hA huu
      subst eA
      refine wp_region_inv (Inv := R20Inv wz m g13 7 1 ByteArray.empty Fl uu) (by kernel_rfl) ?_ ?_ ?_
      · refine ⟨fun _ => false, fun k => ?_, uu, rfl, by simp, ⟨?_, ?_, ?_, ?_, ?_, ?_, ?_, ?_, ?_, ?_, ?_, ?_, ?_, ?_, ?_, ?_, ?_, ?_⟩⟩
        · rw [Array.getD_eq_getD_getElem?, Array.getElem?_replicate]; split <;> rfl
        · intro h; exact absurd h (by decide)
        · intro h; exact absurd h (by decide)
        · intro h; exact absurd h (by decide)
        · intro h; exact absurd h (by decide)
        · intro h; exact absurd h (by decide)
        · exact (Ext.refl _).drew
        · intro h; exact absurd h (by decide)
        · intro h; exact absurd h (by decide)
        · intro h; exact absurd h (by decide)
        · intro h; exact absurd h (by decide)
        · intro h; exact absurd h (by decide)
        · intro h; exact absurd h (by decide)
        · intro h; exact absurd h (by decide)
        · intro h; exact absurd h (by decide)
        · intro h; exact absurd h (by decide)
        · intro h; exact absurd h (by decide)
        · intro h; exact absurd h (by decide)
        · intro h; exact absurd h (by decide)
      · rintro listed act W ii ⟨L, hL, s, rfl, hsz, I⟩ hi
        obtain ⟨hlt, hnot, hdep⟩ := (ready_iff _ _).1 hi
        have hiN : ii < 11 := hlt
        have casesN : ii = 0 ∨ ii = 1 ∨ ii = 2 ∨ ii = 3 ∨ ii = 4 ∨ ii = 5 ∨ ii = 6 ∨ ii = 7 ∨ ii = 8 ∨ ii = 9 ∨ ii = 10 := by omega
        have hn0 : L ii = false := by rw [← hL ii]; exact not_bit hnot
        clear hi hlt hiN hnot
        have iW : IsExt wz W := ⟨I.x⟩
        obtain ⟨p1, p2, p3⟩ := (BZ.out.ext I.x).rules
        have hfz := I.x.below.size
        unfold frR20
        rcases casesN with rfl | rfl | rfl | rfl | rfl | rfl | rfl | rfl | rfl | rfl | rfl
        · -- operation 0
          simp only [Region.binds, listed_bit hL] at hdep
          refine wpOp_step rfl (fun K' hK => ?_)
          go_simp
          exact hK _ _ ⟨_, bit_set hL hsz 0 (by omega), fun jx => if jx = 85 then .pointer (some ⟨m, 0, none⟩) else s jx, by first | (simp [frR20]; done) | (simp [frR20]; rfl), by simpa using hsz, ⟨fun _ => rfl, I.v1, I.v3, I.v4, I.v5, I.x, I.c6, I.c9, I.c9b, I.c10, I.c10b, I.va, I.vb, I.za, I.zb, I.ya, I.yb, I.dd⟩⟩
        · -- operation 1
          simp only [Region.binds, listed_bit hL] at hdep
          refine wpOp_step rfl (fun K' hK => ?_)
          go_simp
          exact hK _ _ ⟨_, bit_set hL hsz 1 (by omega), fun jx => if jx = 86 then .int .i64 23 else s jx, by first | (simp [frR20]; done) | (simp [frR20]; rfl), by simpa using hsz, ⟨I.v0, fun _ => rfl, I.v3, I.v4, I.v5, I.x, I.c6, I.c9, I.c9b, I.c10, I.c10b, I.va, I.vb, I.za, I.zb, I.ya, I.yb, I.dd⟩⟩
        · -- operation 2
          simp only [Region.binds, listed_bit hL] at hdep
          have d0 : L 0 = true := by first | simpa [hL] using hdep | (simp [hL, Region.binds] at hdep; simp [hdep])
          have e0 := I.v0 d0
          have d1 : L 1 = true := by first | simpa [hL] using hdep | (simp [hL, Region.binds] at hdep; simp [hdep])
          have e1 := I.v1 d1
          refine wpOp_step rfl (fun K' hK => ?_)
          rw [e0, e1]
          go_simp
          refine (CA.out _).mono ?_
          rintro e w3 ⟨va, vc, rfl, va3, x3⟩
          exact hK _ _ ⟨_, bit_set hL hsz 2 (by omega), fun jx => if jx = 87 then .agg #[.int .i64 7, .int .i64 1, .int .i64 24, .bool false, .slice va Fl.length vc, .string ByteArray.empty] else s jx, by first | (simp [frR20, e0, e1]; done) | (simp [frR20, e0, e1]; rfl), by simpa using hsz, ⟨I.v0, I.v1, I.v3, I.v4, I.v5, I.x.trans x3, fun _ => rfl, I.c9, I.c9b, I.c10, I.c10b, fun _ => ⟨va, vc, rfl, va3.mono hfz⟩, fun h => by obtain ⟨v, vq, y1, y2⟩ := I.vb h; exact ⟨v, vq, y1, y2.ext x3⟩, fun h1 h2 => by obtain ⟨g, y1, y2, y3⟩ := I.za h1 h2; exact ⟨g, y1, y2, y3.ext x3⟩, fun h1 => by obtain ⟨g, v, vq, y1, y2, y3, y4⟩ := I.zb h1; exact ⟨g, v, vq, y1, y2, y3.ext x3, y4.ext x3⟩, fun h1 h2 => by obtain ⟨g, y1, y2, y3⟩ := I.ya h1 h2; exact ⟨g, y1, y2, y3.ext x3⟩, fun h1 => by obtain ⟨g, v, vq, y1, y2, y3, y4⟩ := I.yb h1; exact ⟨g, v, vq, y1, y2, y3.ext x3, y4.ext x3⟩, I.dd⟩⟩
        · -- operation 3
          simp only [Region.binds, listed_bit hL] at hdep
          refine wpOp_step rfl (fun K' hK => ?_)
          go_simp
          exact hK _ _ ⟨_, bit_set hL hsz 3 (by omega), fun jx => if jx = 88 then .pointer (some ⟨m, 0, none⟩) else s jx, by first | (simp [frR20]; done) | (simp [frR20]; rfl), by simpa using hsz, ⟨I.v0, I.v1, fun _ => rfl, I.v4, I.v5, I.x, I.c6, I.c9, I.c9b, I.c10, I.c10b, I.va, I.vb, I.za, I.zb, I.ya, I.yb, I.dd⟩⟩
        · -- operation 4
          simp only [Region.binds, listed_bit hL] at hdep
          refine wpOp_step rfl (fun K' hK => ?_)
          go_simp
          exact hK _ _ ⟨_, bit_set hL hsz 4 (by omega), fun jx => if jx = 89 then .pointer (some ⟨g13, 1, none⟩) else s jx, by first | (simp [frR20]; done) | (simp [frR20]; rfl), by simpa using hsz, ⟨I.v0, I.v1, I.v3, fun _ => rfl, I.v5, I.x, I.c6, I.c9, I.c9b, I.c10, I.c10b, I.va, I.vb, I.za, I.zb, I.ya, I.yb, I.dd⟩⟩
        · -- operation 5
          simp only [Region.binds, listed_bit hL] at hdep
          have d4 : L 4 = true := by first | simpa [hL] using hdep | (simp [hL, Region.binds] at hdep; simp [hdep])
          have e4 := I.v4 d4
          refine wpOp_step rfl (fun K' hK => ?_)
          rw [e4]
          go_simp
          exact hK _ _ ⟨_, bit_set hL hsz 5 (by omega), fun jx => if jx = 90 then .int .i64 24 else s jx, by first | (simp [frR20, e4]; done) | (simp [frR20, e4]; rfl), by simpa using hsz, ⟨I.v0, I.v1, I.v3, I.v4, fun _ => rfl, I.x, I.c6, I.c9, I.c9b, I.c10, I.c10b, I.va, I.vb, I.za, I.zb, I.ya, I.yb, I.dd⟩⟩
        · -- operation 6
          simp only [Region.binds, listed_bit hL] at hdep
          have d3 : L 3 = true := by first | simpa [hL] using hdep | (simp [hL, Region.binds] at hdep; simp [hdep])
          have e3 := I.v3 d3
          have d5 : L 5 = true := by first | simpa [hL] using hdep | (simp [hL, Region.binds] at hdep; simp [hdep])
          have e5 := I.v5 d5
          have d2 : L 2 = true := by first | simpa [hL] using hdep | (simp [hL, Region.binds] at hdep; simp [hdep])
          refine wpOp_step rfl (fun K' hK => ?_)
          rw [e3, e5]
          go_simp
          refine (CB.out _).mono ?_
          rintro e w3 ⟨va, vc, rfl, va3, x3⟩
          exact hK _ _ ⟨_, bit_set hL hsz 6 (by omega), fun jx => if jx = 91 then .agg #[.int .i64 7, .int .i64 1, .int .i64 25, .bool false, .slice va Fl.length vc, .string ByteArray.empty] else s jx, by first | (simp [frR20, e3, e5]; done) | (simp [frR20, e3, e5]; rfl), by simpa using hsz, ⟨I.v0, I.v1, I.v3, I.v4, I.v5, I.x.trans x3, fun _ => d2, fun _ => rfl, I.c9b, I.c10, I.c10b, fun h => by obtain ⟨v, vq, y1, y2⟩ := I.va h; exact ⟨v, vq, y1, y2.ext x3⟩, fun _ => ⟨va, vc, rfl, va3.mono hfz⟩, fun h1 h2 => by obtain ⟨g, y1, y2, y3⟩ := I.za h1 h2; exact ⟨g, y1, y2, y3.ext x3⟩, fun h1 => by obtain ⟨g, v, vq, y1, y2, y3, y4⟩ := I.zb h1; exact ⟨g, v, vq, y1, y2, y3.ext x3, y4.ext x3⟩, fun h1 h2 => by obtain ⟨g, y1, y2, y3⟩ := I.ya h1 h2; exact ⟨g, y1, y2, y3.ext x3⟩, fun h1 => by obtain ⟨g, v, vq, y1, y2, y3, y4⟩ := I.yb h1; exact ⟨g, v, vq, y1, y2, y3.ext x3, y4.ext x3⟩, I.dd⟩⟩
        · -- operation 7
          simp only [Region.binds, listed_bit hL] at hdep
          have n9 : L 9 = false := by cases hh : L 9 with | false => rfl | true => rw [I.c9b hh] at hn0; cases hn0
          have hd : L 8 = true → Value.pointer (some ⟨W.heap.size, 0, none⟩) ≠ s 16 := fun h8 e => by
            cases hh : L 10 with
            | false => obtain ⟨g', y1, _, y3⟩ := I.ya h8 hh; rw [y1] at e; injection e with e; injection e with e; injection e with e; have := y3.lt; omega
            | true => obtain ⟨g', _, _, y1, _, y3, _⟩ := I.yb hh; rw [y1] at e; injection e with e; injection e with e; injection e with e; have := y3.lt; omega
          refine wpOp_step rfl (fun K' hK => ?_)
          go_simp
          exact hK _ _ ⟨_, bit_set hL hsz 7 (by omega), fun jx => if jx = 15 then .pointer (some ⟨W.heap.size, 0, none⟩) else s jx, by first | (simp [frR20]; done) | (simp [frR20]; rfl), by simpa using hsz, ⟨I.v0, I.v1, I.v3, I.v4, I.v5, I.x.trans ((Ext.refl _).alloc _), I.c6, I.c9, fun _ => rfl, I.c10, I.c10b, fun h => by obtain ⟨v, vq, y1, y2⟩ := I.va h; exact ⟨v, vq, y1, y2.ext ((Ext.refl _).alloc _)⟩, fun h => by obtain ⟨v, vq, y1, y2⟩ := I.vb h; exact ⟨v, vq, y1, y2.ext ((Ext.refl _).alloc _)⟩, fun _ _ => ⟨_, rfl, hfz, Blk.new _ _ _⟩, fun h => absurd (show L 9 = true from h) (by rw [n9]; decide), fun h1 h2 => by obtain ⟨g, y1, y2, y3⟩ := I.ya h1 h2; exact ⟨g, y1, y2, y3.ext ((Ext.refl _).alloc _)⟩, fun h1 => by obtain ⟨g, v, vq, y1, y2, y3, y4⟩ := I.yb h1; exact ⟨g, v, vq, y1, y2, y3.ext ((Ext.refl _).alloc _), y4.ext ((Ext.refl _).alloc _)⟩, fun _ h8 => hd h8⟩⟩
        · -- operation 8
          simp only [Region.binds, listed_bit hL] at hdep
          have n10 : L 10 = false := by cases hh : L 10 with | false => rfl | true => rw [I.c10b hh] at hn0; cases hn0
          have hd : L 7 = true → s 15 ≠ Value.pointer (some ⟨W.heap.size, 0, none⟩) := fun h7 e => by
            cases hh : L 9 with
            | false => obtain ⟨g', y1, _, y3⟩ := I.za h7 hh; rw [y1] at e; injection e with e; injection e with e; injection e with e; have := y3.lt; omega
            | true => obtain ⟨g', _, _, y1, _, y3, _⟩ := I.zb hh; rw [y1] at e; injection e with e; injection e with e; injection e with e; have := y3.lt; omega
          refine wpOp_step rfl (fun K' hK => ?_)
          go_simp
          exact hK _ _ ⟨_, bit_set hL hsz 8 (by omega), fun jx => if jx = 16 then .pointer (some ⟨W.heap.size, 0, none⟩) else s jx, by first | (simp [frR20]; done) | (simp [frR20]; rfl), by simpa using hsz, ⟨I.v0, I.v1, I.v3, I.v4, I.v5, I.x.trans ((Ext.refl _).alloc _), I.c6, I.c9, I.c9b, I.c10, fun _ => rfl, fun h => by obtain ⟨v, vq, y1, y2⟩ := I.va h; exact ⟨v, vq, y1, y2.ext ((Ext.refl _).alloc _)⟩, fun h => by obtain ⟨v, vq, y1, y2⟩ := I.vb h; exact ⟨v, vq, y1, y2.ext ((Ext.refl _).alloc _)⟩, fun h1 h2 => by obtain ⟨g, y1, y2, y3⟩ := I.za h1 h2; exact ⟨g, y1, y2, y3.ext ((Ext.refl _).alloc _)⟩, fun h1 => by obtain ⟨g, v, vq, y1, y2, y3, y4⟩ := I.zb h1; exact ⟨g, v, vq, y1, y2, y3.ext ((Ext.refl _).alloc _), y4.ext ((Ext.refl _).alloc _)⟩, fun _ _ => ⟨_, rfl, hfz, Blk.new _ _ _⟩, fun h => absurd (show L 10 = true from h) (by rw [n10]; decide), fun h7 _ => hd h7⟩⟩
        · -- operation 9
          simp only [Region.binds, listed_bit hL] at hdep
          have d7 : L 7 = true := by first | simpa [hL] using hdep | (simp [hL, Region.binds] at hdep; simp [hdep])
          have d2 : L 2 = true := by first | simpa [hL] using hdep | (simp [hL, Region.binds] at hdep; simp [hdep])
          have d6 : L 6 = true := by first | simpa [hL] using hdep | (simp [hL, Region.binds] at hdep; simp [hdep])
          obtain ⟨va, vc, e2, hv⟩ := I.va d2
          obtain ⟨g, e7, hg, hB⟩ := I.za d7 hn0
          obtain ⟨q1, q2, q3⟩ := hB.rules
          have n10 : L 10 = false := by cases hh : L 10 with | false => rfl | true => rw [I.c10 hh] at hn0; cases hn0
          have hd : L 8 = true → ∀ g', s 16 = .pointer (some ⟨g', 0, none⟩) → g' ≠ g := fun h8 g' y e => I.dd d7 h8 (by rw [e7, y, e])
          refine wpOp_step rfl (fun K' hK => ?_)
          rw [e2, e7]
          have IX := Lib.hid I
          have HB := Lib.hid hB
          have HV := Lib.hid hv
          clear I hB hv
          go_simp
          exact hK _ _ ⟨_, bit_set hL hsz 9 (by omega), s, by first | (simp [frR20, e2, e7]; done) | (simp [frR20, e2, e7]; rfl), by simpa using hsz, ⟨IX.out.v0, IX.out.v1, IX.out.v3, IX.out.v4, IX.out.v5, ((((((IX.out.x.setNew (p := ⟨g, 0, none⟩) hg _).setNew (p := ⟨g, 1, none⟩) hg _).setNew (p := ⟨g, 2, none⟩) hg _).setNew (p := ⟨g, 3, none⟩) hg _).setNew (p := ⟨g, 4, none⟩) hg _).setNew (p := ⟨g, 5, none⟩) hg _), IX.out.c6, fun _ => d6, fun _ => d7, fun _ => rfl, IX.out.c10b, fun h => by obtain ⟨v, vq, y1, y2⟩ := IX.out.va h; exact ⟨v, vq, y1, y2.far HB.out (((((((Keep.refl (· = g) W).setCell (p := ⟨g, 0, none⟩) rfl _).setCell (p := ⟨g, 1, none⟩) rfl _).setCell (p := ⟨g, 2, none⟩) rfl _).setCell (p := ⟨g, 3, none⟩) rfl _).setCell (p := ⟨g, 4, none⟩) rfl _).setCell (p := ⟨g, 5, none⟩) rfl _)⟩, fun h => by obtain ⟨v, vq, y1, y2⟩ := IX.out.vb h; exact ⟨v, vq, y1, y2.far HB.out (((((((Keep.refl (· = g) W).setCell (p := ⟨g, 0, none⟩) rfl _).setCell (p := ⟨g, 1, none⟩) rfl _).setCell (p := ⟨g, 2, none⟩) rfl _).setCell (p := ⟨g, 3, none⟩) rfl _).setCell (p := ⟨g, 4, none⟩) rfl _).setCell (p := ⟨g, 5, none⟩) rfl _)⟩, fun _ h => absurd h (by simp), fun _ => ⟨g, va, vc, e7, hg, ((((((HB.out.set 0 _).set 1 _).set 2 _).set 3 _).set 4 _).set 5 _), HV.out.far HB.out (((((((Keep.refl (· = g) W).setCell (p := ⟨g, 0, none⟩) rfl _).setCell (p := ⟨g, 1, none⟩) rfl _).setCell (p := ⟨g, 2, none⟩) rfl _).setCell (p := ⟨g, 3, none⟩) rfl _).setCell (p := ⟨g, 4, none⟩) rfl _).setCell (p := ⟨g, 5, none⟩) rfl _)⟩, fun h1 h2 => by obtain ⟨g2, y1, y2, y3⟩ := IX.out.ya h1 h2; exact ⟨g2, y1, y2, y3.keep (((((((Keep.refl (· = g) W).setCell (p := ⟨g, 0, none⟩) rfl _).setCell (p := ⟨g, 1, none⟩) rfl _).setCell (p := ⟨g, 2, none⟩) rfl _).setCell (p := ⟨g, 3, none⟩) rfl _).setCell (p := ⟨g, 4, none⟩) rfl _).setCell (p := ⟨g, 5, none⟩) rfl _) (hd h1 g2 y1)⟩, fun h => absurd (show L 10 = true from h) (by rw [n10]; decide), IX.out.dd⟩⟩
        · -- operation 10
          simp only [Region.binds, listed_bit hL] at hdep
          have d8 : L 8 = true := by first | simpa [hL] using hdep | (simp [hL, Region.binds] at hdep; simp [hdep])
          have d6 : L 6 = true := by first | simpa [hL] using hdep | (simp [hL, Region.binds] at hdep; simp [hdep])
          have d9 : L 9 = true := by first | simpa [hL] using hdep | (simp [hL, Region.binds] at hdep; simp [hdep])
          obtain ⟨va, vc, e6, hv⟩ := I.vb d6
          obtain ⟨g, e8, hg, hB⟩ := I.ya d8 hn0
          obtain ⟨q1, q2, q3⟩ := hB.rules
          have d7 := I.c9b d9
          have hd : ∀ g', s 15 = .pointer (some ⟨g', 0, none⟩) → g' ≠ g := fun g' y e => I.dd d7 d8 (by rw [e8, y, e])
          refine wpOp_step rfl (fun K' hK => ?_)
          rw [e6, e8]
          have IX := Lib.hid I
          have HB := Lib.hid hB
          have HV := Lib.hid hv
          clear I hB hv
          go_simp
          exact hK _ _ ⟨_, bit_set hL hsz 10 (by omega), s, by first | (simp [frR20, e6, e8]; done) | (simp [frR20, e6, e8]; rfl), by simpa using hsz, ⟨IX.out.v0, IX.out.v1, IX.out.v3, IX.out.v4, IX.out.v5, ((((((IX.out.x.setNew (p := ⟨g, 0, none⟩) hg _).setNew (p := ⟨g, 1, none⟩) hg _).setNew (p := ⟨g, 2, none⟩) hg _).setNew (p := ⟨g, 3, none⟩) hg _).setNew (p := ⟨g, 4, none⟩) hg _).setNew (p := ⟨g, 5, none⟩) hg _), IX.out.c6, IX.out.c9, IX.out.c9b, fun _ => d9, fun _ => d8, fun h => by obtain ⟨v, vq, y1, y2⟩ := IX.out.va h; exact ⟨v, vq, y1, y2.far HB.out (((((((Keep.refl (· = g) W).setCell (p := ⟨g, 0, none⟩) rfl _).setCell (p := ⟨g, 1, none⟩) rfl _).setCell (p := ⟨g, 2, none⟩) rfl _).setCell (p := ⟨g, 3, none⟩) rfl _).setCell (p := ⟨g, 4, none⟩) rfl _).setCell (p := ⟨g, 5, none⟩) rfl _)⟩, fun h => by obtain ⟨v, vq, y1, y2⟩ := IX.out.vb h; exact ⟨v, vq, y1, y2.far HB.out (((((((Keep.refl (· = g) W).setCell (p := ⟨g, 0, none⟩) rfl _).setCell (p := ⟨g, 1, none⟩) rfl _).setCell (p := ⟨g, 2, none⟩) rfl _).setCell (p := ⟨g, 3, none⟩) rfl _).setCell (p := ⟨g, 4, none⟩) rfl _).setCell (p := ⟨g, 5, none⟩) rfl _)⟩, fun h1 h2 => absurd (show L 9 = false from h2) (by rw [d9]; decide), fun h1 => by obtain ⟨g2, v2, v2q, y1, y2, y3, y4⟩ := IX.out.zb d9; exact ⟨g2, v2, v2q, y1, y2, y3.keep (((((((Keep.refl (· = g) W).setCell (p := ⟨g, 0, none⟩) rfl _).setCell (p := ⟨g, 1, none⟩) rfl _).setCell (p := ⟨g, 2, none⟩) rfl _).setCell (p := ⟨g, 3, none⟩) rfl _).setCell (p := ⟨g, 4, none⟩) rfl _).setCell (p := ⟨g, 5, none⟩) rfl _) (hd g2 y1), y4.far HB.out (((((((Keep.refl (· = g) W).setCell (p := ⟨g, 0, none⟩) rfl _).setCell (p := ⟨g, 1, none⟩) rfl _).setCell (p := ⟨g, 2, none⟩) rfl _).setCell (p := ⟨g, 3, none⟩) rfl _).setCell (p := ⟨g, 4, none⟩) rfl _).setCell (p := ⟨g, 5, none⟩) rfl _)⟩, fun _ h => absurd h (by simp), fun _ => ⟨g, va, vc, e8, hg, ((((((HB.out.set 0 _).set 1 _).set 2 _).set 3 _).set 4 _).set 5 _), HV.out.far HB.out (((((((Keep.refl (· = g) W).setCell (p := ⟨g, 0, none⟩) rfl _).setCell (p := ⟨g, 1, none⟩) rfl _).setCell (p := ⟨g, 2, none⟩) rfl _).setCell (p := ⟨g, 3, none⟩) rfl _).setCell (p := ⟨g, 4, none⟩) rfl _).setCell (p := ⟨g, 5, none⟩) rfl _)⟩, IX.out.dd⟩⟩
      · rintro listed act W0 ⟨L, hL, s, rfl, hsz, I⟩ hr
        have ALL : ∀ i, i < 11 → L i = true := fun i hi => by rw [← hL i]; exact all_listed_m (by kernel_rfl) hsz hr i hi
        obtain ⟨ga, aA, cA, eA, hga, bA, vaA⟩ := I.zb (ALL 9 (by omega))
        obtain ⟨gb, aB, cB, eB, hgb, bB, vaB⟩ := I.yb (ALL 10 (by omega))
        have nab : ga ≠ gb := fun e => I.dd (ALL 7 (by omega)) (ALL 8 (by omega)) (by rw [eA, eB, e])
        have xN := I.x
        clear I hL ALL hr hsz
        unfold frR20
        dsimp only
        rw [eA, eB, ← HU.out]
        clear HU eA eB
        simp only [Array.getD_eq_getD_getElem?, List.getElem?_toArray, List.getElem?_cons_succ, List.getElem?_cons_zero, Option.getD_some]
        obtain ⟨r1, r2, r3⟩ := bA.rules
        obtain ⟨q1, q2, q3⟩ := bB.rules
        go_upto_region 22 with (fail)
        refine wp_name (fun w10 hW => ?_)
        have bA' : Blk w10 ga 62 #[.int .i64 7, .int .i64 1, .int .i64 24, .bool false, .slice aA Fl.length cA, .string ByteArray.empty] := by rw [hW]; exact bA.far nab _
        have bB' : Blk w10 gb 62 #[.int .i64 7, .int .i64 1, .int .i64 24, .bool false, .slice aB Fl.length cB, .string ByteArray.empty] := by rw [hW]; exact bB.set 2 _
        have vaA' : VA wz.heap.size w10 (.slice aA Fl.length cA) Fl := by rw [hW]; exact vaA.far bB ((Keep.refl (· = gb) W0).setCell (p := ⟨gb, 2, none⟩) rfl _)
        have vaB' : VA wz.heap.size w10 (.slice aB Fl.length cB) Fl := by rw [hW]; exact vaB.far bB ((Keep.refl (· = gb) W0).setCell (p := ⟨gb, 2, none⟩) rfl _)
        have x10 : Ext wz w10 := by rw [hW]; exact xN.setNew (p := ⟨gb, 2, none⟩) hgb _
        have hl10 : Fl.length ≤ 1000 := by rw [HLF.out]; omega
        have CS := Lib.hid (same00 w10 7 1 24 false ByteArray.empty _ _ Fl vaA'.vals vaB'.vals hl10)
        obtain ⟨r1, r2, r3⟩ := bA'.rules
        obtain ⟨q1, q2, q3⟩ := bB'.rules
        have BA10 := Lib.hid bA'
        have VA10 := Lib.hid vaA'
        have X10 := Lib.hid x10
        clear hW bA bB bA' bB' vaA vaB vaA' vaB' x10 xN nab CA CB hgb
        go_wp2_with fail
        refine CS.out.mono ?_
        rintro e wy ⟨rfl, xy⟩
        have XWY := Lib.hid (X10.out.trans xy)
        have MY := Lib.hid (MZ.out.ext XWY.out)
        have BY := Lib.hid (BZ.out.ext XWY.out)
        have XY := Lib.hid (XZ.out.trans XWY.out)
        have BA := Lib.hid (BA10.out.ext xy)
        have VAY := Lib.hid (VA10.out.ext xy)
        have HGA := Lib.hid hga
        have LTZ := Lib.hid MZ.out.lt
        have AW := Lib.hid awake18
        clear CS BA10 VA10 X10 MZ BZ XZ xy r1 r2 r3 q1 q2 q3 hga
        by_cases n0 : n = 0
        · have z0' : ((n : Int) == 0) = true := beq_iff_eq.2 (by omega)
          go_wp2_with fail
          refine (AW.out _).mono ?_
          rintro e w12 ⟨rfl, x12⟩
          have XE := Lib.hid (XY.out.trans x12)
          clear x12
          go_wp2_with fail
          go_ret
          exact ⟨rfl, XE.out.below⟩
        · have z0' : ((n : Int) == 0) = false := beq_eq_false_iff_ne.2 (by omega)
          obtain ⟨_, hh24, hf24, _, hs24, hrest⟩ := AE.out
          have h1m : T.may ⟨false, 1⟩ = true := MS.fits_small (n := 1) (by omega)
          have h7m : T.may ⟨false, 7⟩ = true := MS.fits_small (n := 7) (by omega)
          obtain ⟨hph, hrest⟩ := hrest
          obtain ⟨hok, hcp⟩ := hrest (by omega)
          have hs0 : (((0 : Nat) : Nat) : Int) < T.size 24 := by rw [hs24]; omega
          obtain ⟨PT, hPT⟩ : ∃ P, T.set 24 0 (num 7) = P := ⟨_, rfl⟩
          rw [hPT] at hcp
          have CO : Hid (∀ W F', M W F' m T → ∀ gs, Blk W gs 40 #[.bool false, .int .i64 1, .bool false, .int .i64 7] → ¬ F' gs → Calls Tryz.prog 27 #[.pointer (some ⟨m, 0, none⟩), .int .i64 25, .agg #[.bool true, .int .i64 24], .slice (some ⟨gs, 0, none⟩) 2 2] W fun e w' => e = .returned (.tuple #[.agg #[.bool false, .int .i64 7], .bool true]) ∧ Goes F' m PT W w') := Lib.hid (fun W F' hM gs hb hn =>
            pop25 hM 24 1 hh24 h1m false 7 h7m gs 2 hb hn false true 7 PT (fun W' x' => by
              have q := pset_f (hM.ext x') 24 (by omega) 0 hs0 (by omega) false 7 (by rw [hf24]; decide) hph hok
              rw [← hPT]
              exact q.mono (fun e w' ⟨a, b, c⟩ => ⟨a, ⟨F', b, c, fun _ h => .inl h⟩⟩)))
          have HCP := Lib.hid hcp
          clear hcp hok hrest hs24 hf24 hh24 hs0 h1m h7m hPT AE
          go_upto_region 26 with (fail)
          refine wp_any_act (fun A hA => ?_)
          have eA : A = frR26 m g13 ga gb (fun q => A.tmps.getD q undef) (fun q => A.tmps.getD q undef) := by rw [hA]; rfl
          obtain ⟨uu, huu⟩ : ∃ uu, (fun q => A.tmps.getD q undef) = uu := ⟨_, rfl⟩
          rw [huu] at eA
          rw [hA] at huu
          have HU := Lib.hid huu
          clear hA huu
          subst eA
          refine wp_region_inv (Inv := R26Inv wy m g13 ga gb T PT F2 uu) (by kernel_rfl) ?_ ?_ ?_
          · refine ⟨fun _ => false, fun k => ?_, uu, F2, rfl, by simp, ⟨?_, ?_, ?_, ?_, ?_, ?_, ?_, ?_, ?_, ?_, ?_, ?_, ?_, ?_, ?_, ?_, ?_, ?_⟩⟩
            · rw [Array.getD_eq_getD_getElem?, Array.getElem?_replicate]; split <;> rfl
            · intro h; exact absurd h (by decide)
            · intro h; exact absurd h (by decide)
            · intro h; exact absurd h (by decide)
            · intro h; exact absurd h (by decide)
            · intro h; exact absurd h (by decide)
            · intro h; exact absurd h (by decide)
            · intro h; exact absurd h (by decide)
            · intro h; exact absurd h (by decide)
            · intro h; exact absurd h (by decide)
            · exact fun _ => MY.out.ext ((Ext.refl _).drew)
            · intro h; exact absurd h (by decide)
            · exact Mov.of_ext ((Ext.refl _).drew)
            · intro h; exact absurd h (by decide)
            · intro h; exact absurd h (by decide)
            · intro h; exact absurd h (by decide)
            · intro h; exact absurd h (by decide)
            · intro h; exact absurd h (by decide)
            · intro h; exact absurd h (by decide)
          · rintro listed act W ii ⟨L, hL, s, F8, rfl, hsz, I⟩ hi
            obtain ⟨hlt, hnot, hdep⟩ := (ready_iff _ _).1 hi
            have hiN : ii < 12 := hlt
            have casesN : ii = 0 ∨ ii = 1 ∨ ii = 2 ∨ ii = 3 ∨ ii = 4 ∨ ii = 5 ∨ ii = 6 ∨ ii = 7 ∨ ii = 8 ∨ ii = 9 ∨ ii = 10 ∨ ii = 11 := by omega
            have hn0 : L ii = false := by rw [← hL ii]; exact not_bit hnot
            clear hi hlt hiN hnot
            obtain ⟨b13, n13⟩ := I.mv.blk BY.out NZ.out
            obtain ⟨p1, p2, p3⟩ := b13.rules
            have hfz := I.mv.keep.size
            have hlt8 : ∀ k, F8 k → k < W.heap.size := fun k hk => by cases hh : L 5 with | false => exact (I.ma hh).lt k hk | true => exact (I.mb hh).lt k hk
            unfold frR26
            rcases casesN with rfl | rfl | rfl | rfl | rfl | rfl | rfl | rfl | rfl | rfl | rfl | rfl
            · -- operation 0
              simp only [Region.binds, listed_bit hL] at hdep
              refine wpOp_step rfl (fun K' hK => ?_)
              go_simp
              exact hK _ _ ⟨_, bit_set hL hsz 0 (by omega), fun jx => if jx = 103 then .pointer (some ⟨m, 0, none⟩) else s jx, F8, by first | (simp [frR26]; done) | (simp [frR26]; rfl), by simpa using hsz, ⟨fun _ => rfl, I.v1, I.v2, I.v3, I.v5, I.v6, I.v7, I.v8, I.v11, I.ma, I.mb, I.mv, I.c6, I.c7, I.sl, I.k10, I.za, I.zb⟩⟩
            · -- operation 1
              simp only [Region.binds, listed_bit hL] at hdep
              refine wpOp_step rfl (fun K' hK => ?_)
              go_simp
              exact hK _ _ ⟨_, bit_set hL hsz 1 (by omega), fun jx => if jx = 104 then .agg #[.bool true, .int .i64 24] else s jx, F8, by first | (simp [frR26]; done) | (simp [frR26]; rfl), by simpa using hsz, ⟨I.v0, fun _ => rfl, I.v2, I.v3, I.v5, I.v6, I.v7, I.v8, I.v11, I.ma, I.mb, I.mv, I.c6, I.c7, I.sl, I.k10, I.za, I.zb⟩⟩
            · -- operation 2
              simp only [Region.binds, listed_bit hL] at hdep
              refine wpOp_step rfl (fun K' hK => ?_)
              go_simp
              refine (HN.out _ _).mono ?_
              rintro e w3 ⟨rfl, x3⟩
              exact hK _ _ ⟨_, bit_set hL hsz 2 (by omega), fun jx => if jx = 105 then .agg #[.bool false, .int .i64 1] else s jx, F8, by first | (simp [frR26]; done) | (simp [frR26]; rfl), by simpa using hsz, ⟨I.v0, I.v1, fun _ => rfl, I.v3, I.v5, I.v6, I.v7, I.v8, I.v11, fun h => (I.ma h).ext x3, fun h => (I.mb h).ext x3, I.mv.ext x3, I.c6, I.c7, fun h1 h2 => by obtain ⟨gs, y1, y2, y3⟩ := I.sl h1 h2; exact ⟨gs, y1, y2.ext x3, y3⟩, I.k10, fun h1 h2 => by obtain ⟨g, y1, y2, y3, y4⟩ := I.za h1 h2; exact ⟨g, y1, y2, y3.ext x3, y4⟩, fun h1 => by obtain ⟨g, y1, y2, y3, y4⟩ := I.zb h1; exact ⟨g, y1, y2, y3.ext x3, y4⟩⟩⟩
            · -- operation 3
              simp only [Region.binds, listed_bit hL] at hdep
              refine wpOp_step rfl (fun K' hK => ?_)
              go_simp
              refine (HN.out _ _).mono ?_
              rintro e w3 ⟨rfl, x3⟩
              exact hK _ _ ⟨_, bit_set hL hsz 3 (by omega), fun jx => if jx = 106 then .agg #[.bool false, .int .i64 7] else s jx, F8, by first | (simp [frR26]; done) | (simp [frR26]; rfl), by simpa using hsz, ⟨I.v0, I.v1, I.v2, fun _ => rfl, I.v5, I.v6, I.v7, I.v8, I.v11, fun h => (I.ma h).ext x3, fun h => (I.mb h).ext x3, I.mv.ext x3, I.c6, I.c7, fun h1 h2 => by obtain ⟨gs, y1, y2, y3⟩ := I.sl h1 h2; exact ⟨gs, y1, y2.ext x3, y3⟩, I.k10, fun h1 h2 => by obtain ⟨g, y1, y2, y3, y4⟩ := I.za h1 h2; exact ⟨g, y1, y2, y3.ext x3, y4⟩, fun h1 => by obtain ⟨g, y1, y2, y3, y4⟩ := I.zb h1; exact ⟨g, y1, y2, y3.ext x3, y4⟩⟩⟩
            · -- operation 4
              simp only [Region.binds, listed_bit hL] at hdep
              have d2 : L 2 = true := by first | simpa [hL] using hdep | (simp [hL, Region.binds] at hdep; simp [hdep])
              have e2 := I.v2 d2
              have d3 : L 3 = true := by first | simpa [hL] using hdep | (simp [hL, Region.binds] at hdep; simp [hdep])
              have e3 := I.v3 d3
              refine wpOp_step rfl (fun K' hK => ?_)
              rw [e2, e3]
              go_simp
              exact hK _ _ ⟨_, bit_set hL hsz 4 (by omega), fun jx => if jx = 107 then .slice (some ⟨W.heap.size, 0, none⟩) 2 2 else s jx, F8, by first | (simp [frR26, e2, e3]; done) | (simp [frR26, e2, e3]; rfl), by simpa using hsz, ⟨I.v0, I.v1, I.v2, I.v3, I.v5, I.v6, I.v7, I.v8, I.v11, fun h => (I.ma h).ext ((Ext.refl _).alloc _), fun h => (I.mb h).ext ((Ext.refl _).alloc _), I.mv.ext ((Ext.refl _).alloc _), I.c6, I.c7, fun _ _ => ⟨_, rfl, Blk.new _ _ _, fun hf => by have := hlt8 _ hf; omega⟩, I.k10, fun h1 h2 => by obtain ⟨g, y1, y2, y3, y4⟩ := I.za h1 h2; exact ⟨g, y1, y2, y3.ext ((Ext.refl _).alloc _), y4⟩, fun h1 => by obtain ⟨g, y1, y2, y3, y4⟩ := I.zb h1; exact ⟨g, y1, y2, y3.ext ((Ext.refl _).alloc _), y4⟩⟩⟩
            · -- operation 5
              simp only [Region.binds, listed_bit hL] at hdep
              have d0 : L 0 = true := by first | simpa [hL] using hdep | (simp [hL, Region.binds] at hdep; simp [hdep])
              have e0 := I.v0 d0
              have d1 : L 1 = true := by first | simpa [hL] using hdep | (simp [hL, Region.binds] at hdep; simp [hdep])
              have e1 := I.v1 d1
              have d4 : L 4 = true := by first | simpa [hL] using hdep | (simp [hL, Region.binds] at hdep; simp [hdep])
              obtain ⟨gs, e4, hgs, ngs⟩ := I.sl d4 hn0
              refine wpOp_step rfl (fun K' hK => ?_)
              rw [e0, e1, e4]
              go_simp
              refine (CO.out _ _ (I.ma hn0) gs hgs ngs).mono ?_
              rintro e w3 ⟨rfl, F9, m9, v9⟩
              exact hK _ _ ⟨_, bit_set hL hsz 5 (by omega), fun jx => if jx = 108 then .tuple #[.agg #[.bool false, .int .i64 7], .bool true] else s jx, F9, by first | (simp [frR26, e0, e1, e4]; done) | (simp [frR26, e0, e1, e4]; rfl), by simpa using hsz, ⟨I.v0, I.v1, I.v2, I.v3, fun _ => rfl, I.v6, I.v7, I.v8, I.v11, fun h => absurd h (by simp), fun _ => m9, I.mv.trans v9, fun _ => rfl, I.c7, fun _ h => absurd h (by simp), I.k10, fun h1 h2 => by obtain ⟨g, y1, y2, y3, y4⟩ := I.za h1 h2; obtain ⟨z1, z2⟩ := v9.blk y3 y4; exact ⟨g, y1, y2, z1, z2⟩, fun h1 => by obtain ⟨g, y1, y2, y3, y4⟩ := I.zb h1; obtain ⟨z1, z2⟩ := v9.blk y3 y4; exact ⟨g, y1, y2, z1, z2⟩⟩⟩
            · -- operation 6
              simp only [Region.binds, listed_bit hL] at hdep
              have d5 : L 5 = true := by first | simpa [hL] using hdep | (simp [hL, Region.binds] at hdep; simp [hdep])
              have e5 := I.v5 d5
              refine wpOp_step rfl (fun K' hK => ?_)
              rw [e5]
              go_simp
              exact hK _ _ ⟨_, bit_set hL hsz 6 (by omega), fun jx => if jx = 102 then .tuple #[.agg #[.bool false, .int .i64 7], .bool true] else s jx, F8, by first | (simp [frR26, e5]; done) | (simp [frR26, e5]; rfl), by simpa using hsz, ⟨I.v0, I.v1, I.v2, I.v3, I.v5, fun _ => rfl, I.v7, I.v8, I.v11, I.ma, I.mb, I.mv, fun _ => d5, fun _ => rfl, I.sl, I.k10, I.za, I.zb⟩⟩
            · -- operation 7
              simp only [Region.binds, listed_bit hL] at hdep
              have d6 : L 6 = true := by first | simpa [hL] using hdep | (simp [hL, Region.binds] at hdep; simp [hdep])
              have e6 := I.v6 d6
              refine wpOp_step rfl (fun K' hK => ?_)
              rw [e6]
              go_simp
              exact hK _ _ ⟨_, bit_set hL hsz 7 (by omega), fun jx => if jx = 109 then .agg #[.bool false, .int .i64 7] else s jx, F8, by first | (simp [frR26, e6]; done) | (simp [frR26, e6]; rfl), by simpa using hsz, ⟨I.v0, I.v1, I.v2, I.v3, I.v5, I.v6, fun _ => rfl, I.v8, I.v11, I.ma, I.mb, I.mv, I.c6, fun _ => d6, I.sl, I.k10, I.za, I.zb⟩⟩
            · -- operation 8
              simp only [Region.binds, listed_bit hL] at hdep
              have d6 : L 6 = true := by first | simpa [hL] using hdep | (simp [hL, Region.binds] at hdep; simp [hdep])
              have e6 := I.v6 d6
              refine wpOp_step rfl (fun K' hK => ?_)
              rw [e6]
              go_simp
              exact hK _ _ ⟨_, bit_set hL hsz 8 (by omega), fun jx => if jx = 110 then .bool true else s jx, F8, by first | (simp [frR26, e6]; done) | (simp [frR26, e6]; rfl), by simpa using hsz, ⟨I.v0, I.v1, I.v2, I.v3, I.v5, I.v6, I.v7, fun _ => rfl, I.v11, I.ma, I.mb, I.mv, I.c6, I.c7, I.sl, I.k10, I.za, I.zb⟩⟩
            · -- operation 9
              simp only [Region.binds, listed_bit hL] at hdep
              have n10 : L 10 = false := by cases hh : L 10 with | false => rfl | true => rw [I.k10 hh] at hn0; cases hn0
              refine wpOp_step rfl (fun K' hK => ?_)
              go_simp
              exact hK _ _ ⟨_, bit_set hL hsz 9 (by omega), fun jx => if jx = 17 then .pointer (some ⟨W.heap.size, 0, none⟩) else s jx, F8, by first | (simp [frR26]; done) | (simp [frR26]; rfl), by simpa using hsz, ⟨I.v0, I.v1, I.v2, I.v3, I.v5, I.v6, I.v7, I.v8, I.v11, fun h => (I.ma h).ext ((Ext.refl _).alloc _), fun h => (I.mb h).ext ((Ext.refl _).alloc _), I.mv.ext ((Ext.refl _).alloc _), I.c6, I.c7, fun h1 h2 => by obtain ⟨gs, y1, y2, y3⟩ := I.sl h1 h2; exact ⟨gs, y1, y2.ext ((Ext.refl _).alloc _), y3⟩, fun _ => rfl, fun _ _ => ⟨_, rfl, hfz, Blk.new _ _ _, fun hf => by have := hlt8 _ hf; omega⟩, fun h => absurd (show L 10 = true from h) (by rw [n10]; decide)⟩⟩
            · -- operation 10
              simp only [Region.binds, listed_bit hL] at hdep
              have d7 : L 7 = true := by first | simpa [hL] using hdep | (simp [hL, Region.binds] at hdep; simp [hdep])
              have e7 := I.v7 d7
              have d9 : L 9 = true := by first | simpa [hL] using hdep | (simp [hL, Region.binds] at hdep; simp [hdep])
              have d5 := I.c6 (I.c7 d7)
              obtain ⟨g, e9, hg, hB, hnF⟩ := I.za d9 hn0
              obtain ⟨q1, q2, q3⟩ := hB.rules
              refine wpOp_step rfl (fun K' hK => ?_)
              rw [e7, e9]
              have IX := Lib.hid I
              have HB := Lib.hid hB
              have HNF := Lib.hid hnF
              clear I hB hnF
              go_simp
              exact hK _ _ ⟨_, bit_set hL hsz 10 (by omega), s, F8, by first | (simp [frR26, e7, e9]; done) | (simp [frR26, e7, e9]; rfl), by simpa using hsz, ⟨IX.out.v0, IX.out.v1, IX.out.v2, IX.out.v3, IX.out.v5, IX.out.v6, IX.out.v7, IX.out.v8, IX.out.v11, fun h => absurd (show L 5 = false from h) (by rw [d5]; decide), fun h => (IX.out.mb h).far (((Keep.refl (· = g) W).setCell (p := ⟨g, 0, none⟩) rfl _).setCell (p := ⟨g, 1, none⟩) rfl _) (fun j e hf => HNF.out (e ▸ hf)), ⟨(IX.out.mv.keep.setNew (p := ⟨g, 0, none⟩) hg _).setNew (p := ⟨g, 1, none⟩) hg _, IX.out.mv.new⟩, IX.out.c6, IX.out.c7, fun _ h => absurd (show L 5 = false from h) (by rw [d5]; decide), fun _ => d9, fun _ h => absurd h (by simp), fun _ => ⟨g, e9, hg, (HB.out.set 0 _).set 1 _, HNF.out⟩⟩⟩
            · -- operation 11
              simp only [Region.binds, listed_bit hL] at hdep
              have d8 : L 8 = true := by first | simpa [hL] using hdep | (simp [hL, Region.binds] at hdep; simp [hdep])
              have e8 := I.v8 d8
              refine wpOp_step rfl (fun K' hK => ?_)
              rw [e8]
              go_simp
              exact hK _ _ ⟨_, bit_set hL hsz 11 (by omega), fun jx => if jx = 18 then .bool true else s jx, F8, by first | (simp [frR26, e8]; done) | (simp [frR26, e8]; rfl), by simpa using hsz, ⟨I.v0, I.v1, I.v2, I.v3, I.v5, I.v6, I.v7, I.v8, fun _ => rfl, I.ma, I.mb, I.mv, I.c6, I.c7, I.sl, I.k10, I.za, I.zb⟩⟩
          · rintro listed act W1 ⟨L, hL, s, F8, rfl, hsz, I⟩ hr
            have ALL : ∀ i, i < 12 → L i = true := fun i hi => by rw [← hL i]; exact all_listed_m (by kernel_rfl) hsz hr i hi
            have eK := I.v11 (ALL 11 (by omega))
            have mN := I.mb (ALL 5 (by omega))
            have vN := I.mv
            clear I hL ALL hr hsz
            unfold frR26
            dsimp only
            rw [eK, ← HU.out]
            clear HU eK
            simp only [Array.getD_eq_getD_getElem?, List.getElem?_toArray, List.getElem?_cons_succ, List.getElem?_cons_zero, Option.getD_some]
            have nga : ¬ F2 ga := fun hF => by have := LTZ.out _ hF; have := HGA.out; omega
            obtain ⟨bA1, _⟩ := vN.blk BA.out nga
            have vaA1 := VAY.out.keep vN.keep (fun j hj hF => by have := LTZ.out j hF; omega)
            have X1 : Hid (Ext w W1) := Lib.hid (Ext.of_below (Keep.below XY.out.below vN.keep XY.out.below.size (fun i hi h => by have := FL2.out i h; omega)))
            obtain ⟨hp1, hp2, hp3⟩ := HCP.out
            have CA2 : Hid (∀ W [x : IsExt W1 W], Calls Tryz.prog 26 #[.pointer (some ⟨m, 0, none⟩), .int .i64 23] W fun e w' => ∃ va vc, e = .returned (.agg #[.int .i64 7, .int .i64 1, .int .i64 24, .bool false, .slice va Fl.length vc, .string ByteArray.empty]) ∧ ValsAt w' (.slice va Fl.length vc) Fl ∧ Ext W w') := Lib.hid (fun W x => by
              have q := mthingF (mN.ext x.out) 23 hp1 (by rw [hp2]; decide)
              rw [hp3] at q
              exact q.mono (fun e w' ⟨vF, he, ow, hx⟩ => by
                obtain ⟨va, vc, hva⟩ := ow.form
                subst hva
                exact ⟨va, vc, he, ow.row, hx⟩)
              )
            have BA1 := Lib.hid bA1
            have VAH := Lib.hid vaA1.vals
            have HL10 := Lib.hid hl10
            have i1 : IsExt W1 W1 := ⟨Ext.refl _⟩
            obtain ⟨r1, r2, r3⟩ := BA1.out.rules
            have c0 := r1 0
            have c1' := r1 1
            have c2 := r1 2
            have c3 := r1 3
            have c4 := r1 4
            have c5 := r1 5
            simp only [List.getElem?_toArray, List.getElem?_cons_zero, List.getElem?_cons_succ] at c0 c1' c2 c3 c4 c5
            clear nga bA1 vaA1 hp1 hp2 hp3 mN vN BA VAY HCP XY BY MY CO hl10
            go_upto_region 27 with (fail)
            go_region_held3 (fun w' => w'.cell? ⟨ga, 0, none⟩ = some (.int .i64 7) ∧ w'.cell? ⟨ga, 1, none⟩ = some (.int .i64 1) ∧ w'.cell? ⟨ga, 2, none⟩ = some (.int .i64 24) ∧ w'.cell? ⟨ga, 3, none⟩ = some (.bool false) ∧ w'.cell? ⟨ga, 4, none⟩ = some (.slice aA Fl.length cA) ∧ w'.cell? ⟨ga, 5, none⟩ = some (.string ByteArray.empty)) (first | go_keep) ((first | (go_at_call 26; refine (CA2.out _).mono ?_; rintro e wp ⟨va, vc, rfl, vp, xp⟩; have ip : IsExt W1 wp := ⟨(is_ext W1 _).trans xp⟩; clear xp; obtain ⟨r1, r2, r3⟩ := (BA1.out.ext ip.out).rules) | (go_at_call 30; refine (same00 _ 7 1 24 false ByteArray.empty _ _ Fl (Row.ext vp (is_ext wp _)) (Row.ext VAH.out (is_ext W1 _)) HL10.out).mono ?_; rintro e wq ⟨rfl, xq⟩; have iq : IsExt W1 wq := ⟨(is_ext W1 _).trans xq⟩; clear xq; obtain ⟨r1, r2, r3⟩ := (BA1.out.ext iq.out).rules) | (go_at_call 28; refine (AW.out _).mono ?_; rintro e wv ⟨rfl, xv⟩; have iv : IsExt W1 wv := ⟨(is_ext W1 _).trans xv⟩; clear xv; obtain ⟨r1, r2, r3⟩ := (BA1.out.ext iv.out).rules)))
            have XE := Lib.hid (X1.out.trans iv.out)
            clear r1 r2 r3 c0 c1' c2 c3 c4 c5
            go_wp2_with fail
            go_ret
            exact ⟨rfl, XE.out.below⟩
set_option maxRecDepth 100000 in
set_option maxHeartbeats 1000000 in
theorem copies_text (a0 : Option Addr) (len0 cap0 : Nat) (z0 : List Int) (w : World) (w0 : IRow .i64 w a0 len0 cap0 z0) :
    Calls Tryz.prog 10 #[.slice a0 len0 cap0, .bool true] w fun e w' => e = .returned (.bool true) ∧ Below w.heap.size w w' := by
  obtain ⟨hr, hz, hl⟩ := w0.reads
  have HR := Lib.hid hr
  clear hr w0
  have HF := Lib.hid (@first_ w)
  have HN := Lib.hid lnum
  have HO := Lib.hid lobj
  unfold val num at HN
  unfold val objV at HO
  obtain ⟨n, hn⟩ : ∃ n, n = min len0 40 := ⟨_, rfl⟩
  have n1 : n ≤ len0 := by omega
  have n2 : n ≤ 40 := by omega
  have hn1 : (if (40 : Int) < (len0 : Int) then (40 : Int) else (len0 : Int)) = (n : Int) := by split <;> omega
  have hn2 : (if 40 < len0 then (40 : Int) else (len0 : Int)) = (n : Int) := by split <;> omega
  have hn3 : (if (len0 : Int) < 40 then (len0 : Int) else (40 : Int)) = (n : Int) := by split <;> omega
  clear hn
  go_enter Tryz.func10, Tryz.ntmps10
  go_wp2_with fail
  refine HF.out.mono ?_
  clear HF
  rintro e w1 ⟨xw, rfl, b1, x1'⟩
  obtain ⟨vL, fs, vD, vRe, vWa, vDu, vSn⟩ := xw
  obtain ⟨y1, y2, y3, y4, y5⟩ := b1.bare
  simp only at y1 y2 y3 y4 y5
  subst y1 y2 y3 y4 y5
  obtain ⟨A, cp, hA⟩ := b1.L.form
  have hA : vL = .slice A 23 cp := hA
  subst hA
  unfold cellsW firstW regs0
  go_upto_region 2 with (fail)
  refine wp_name (fun w2 hW => ?_)
  have xb : Ext w1 w2 := by rw [hW]; exact is_ext _ _
  have B2 : BAt w2 w.heap.size w1.heap.size firstW ⟨.slice A 23 cp, fs, .slice none 0 0, .slice none 0 0, .slice none 0 0, .slice none 0 0, .slice none 0 0⟩ := ⟨by rw [hW]; exact Blk.new _ _ _, b1.ext xb⟩
  have X2 := Lib.hid (x1'.trans xb)
  have BH := Lib.hid B2
  have s1 := x1'.below.size
  clear hW B2 b1 x1' xb
  generalize hb : w1.heap.size = b at *
  obtain ⟨iV, iV1, iV2, iV3, iV4⟩ := info_parts infoV
  obtain ⟨hh, hhh⟩ : ∃ q, w2.heap.size = q := ⟨_, rfl⟩
  go_wp2_with fail
  go_loopw [6, 7, 9] (fun v sv iv wr => ∃ k : Nat, k ≤ n ∧ iv = .int .i64 k ∧ sv = .string (bytesC z0 k) ∧ (∃ A c, v = .slice A k c ∧ Own wr hh 40 (.slice A k c) k 2 (cF (fldsC z0 k))) ∧ Ext w2 wr) (fun _ _ iv _ => n - (intOf iv).toNat)
  case atStart => exact ⟨0, by omega, rfl, rfl, ⟨none, 0, rfl, World.ownsRow_nil _ _ _ _⟩, Ext.refl _⟩
  case round =>
    obtain ⟨k, hk, rfl, rfl, ⟨A1, c1, rfl, ok⟩, xk⟩ := hrel
    clear hn1 hn2 hn3
    have XK := Lib.hid xk
    have OK := Lib.hid ok
    by_cases hlt : k < n
    · have iI : (k : Int) < (n : Int) := by omega
      have iL : (k : Int) < (len0 : Int) := by omega
      obtain ⟨rb, roff, rfl, hrb, hrc, hwf⟩ := HR.out k (by omega)
      have c0 := ((X2.out.trans xk).below.cell (p := ⟨rb, roff + k, none⟩) hrb).trans hrc
      have C0 := Lib.hid (fun W (x : Ext w W) => (x.below.cell (p := ⟨rb, roff + k, none⟩) hrb).trans hrc)
      obtain ⟨z1, z2⟩ := bounds_i64 hwf
      have hrb2 : rb < wr.heap.size := by have := (X2.out.trans xk).below.size; omega
      have HRB := Lib.hid hrb
      have PS := bytesC_succ z0 k
      have PF := fldsC_succ z0 k
      unfold cpz at PS PF
      generalize hzz : z0.getD k 0 = z at *
      have PSH := Lib.hid PS
      have PFH := Lib.hid PF
      clear xk ok hrc hwf PS PF hzz
      have hle : hh ≤ wr.heap.size := by have := XK.out.below.size; omega
      go_upto_region 9 with (first | (go_at_call 13; refine (Word.place _ _ _ (by omega) (by omega) (by omega) (by omega)).mono ?_; rintro e w' ⟨rfl, rfl⟩) | (go_at_call 15; refine (HN.out _ _).mono ?_; rintro e w3 ⟨rfl, x3⟩; have X3 := Lib.hid (XK.out.trans x3); have O3 : Hid (w3.ownsRow hh 40 2 (.slice A1 k c1) k (flat k 2 (cF (fldsC z0 k)))) := Lib.hid (OK.out.ext x3); have s3 := x3.below.size; clear x3) | (at_builtin; refine wpList_append_lies _ rfl _ _ _ rfl hh 40 iV (.agg #[.bool false, .int .i64 0]) 2 16 Tryz.underlying42 iV1 iV2 iV3 iV4 rfl (by decide) _ _ _ (by rfl) (World.ownsRow.alloc O3.out _) ⟨w3.heap.size, 0, none⟩ 1 1 [.bool false, .int .i64 (z % 256)] (by rfl) (by rfl) (World.news_of_block (heap_alloc_new w3 _)) (by simp [Value.oneCell']) (by omega) (by unfold maxLen; omega) (by omega) (by simp; omega) (w3.heap.size + 1) (by simp) ?_; intro gg c9 w4 o4 g4 hat hlt4))
      have X4 : Hid (Ext w2 w4) := Lib.hid (by
        have kp := grow_keep g4
        refine Ext.of_below (Keep.below X3.out.below kp X3.out.below.size (fun i hi e => ?_))
        have o2 : Own w3 hh 40 (.slice A1 k c1) k 2 (cF (fldsC z0 k)) := O3.out
        have := (o2.block e).1
        omega)
      have O4 : Hid (Own w4 hh 40 (.slice (some ⟨gg, 0, none⟩) (k + 1) c9) (k + 1) 2 (cF (fldsC z0 (k + 1)))) := Lib.hid (by
        have q := own_val (v := num (z % 256)) (fldsC_len z0 k) o4
        rw [← PFH.out, fldsC_len] at q
        exact q)
      have c4 := C0.out w4 (X2.out.trans X4.out)
      have hrb4 : rb < w4.heap.size := by have := (X2.out.trans X4.out).below.size; have := HRB.out; omega
      have HC := conv1 w4 (z % 256)
      have hwr : IntKind.u8.wrap z = z % 256 := by rw [IntKind.wrap_u8]
      have SZ : (bytesC z0 k).size = k := bytesC_size z0 k
      generalize bytesC z0 k = s at *
      obtain ⟨s', hs'⟩ : ∃ s', s' = bytesC z0 (k + 1) := ⟨_, rfl⟩
      have hadd : ∀ W : World, Sem.run Tryz.prog (Op.stringOp .add s (strOfNums [z % 256])) W = .ok (.string (s ++ strOfNums [z % 256])) W := fun W => run_string_add_sum W _ _ (by rw [SZ, strOfNums_size]; simp only [List.length_cons, List.length_nil]; omega)
      rw [← PSH.out, ← hs'] at hadd
      have HS' := Lib.hid hs'
      clear o4 g4 hat hlt4 O3 X3 XK OK c0 C0 hrb2 PSH PFH hs' SZ hle s3
      go_wp2_with fail
      go_roundw
      case rel => exact ⟨k + 1, by omega, by go_num, by rw [← HS'.out], ⟨_, _, rfl, O4.out.ext (is_ext _ _)⟩, X4.out.alloc _⟩
      case measure => simp [intOf]; omega
    · obtain rfl : n = k := by omega
      have lo1 : w.heap.size ≤ wr.heap.size := (X2.out.trans XK.out).below.size
      have BK := Lib.hid (BH.out.ext XK.out)
      have XR := Lib.hid (X2.out.trans XK.out)
      clear xk ok hlt
      have SZB := bytesC_size z0 n
      generalize bytesC z0 n = Bs at *
      have C1 := Lib.hid (badd BK.out lo1 (vF := .slice none 0 0) (F := []) (row_nil _ _ _) (fun k hk => by simp [Value.ownBlock] at hk) 8 3 Bs (by decide) (by decide))
      have HLF := Lib.hid SZB
      clear OK XK SZB
      go_wp2_with fail
      refine C1.out.mono ?_
      rintro e wA ⟨rfl, vA, bA, kA⟩
      have XA : Hid (Ext w wA) := Lib.hid (Ext.of_below (Keep.below XR.out.below kA XR.out.below.size (fun i hi h => by
        rcases h with h | h
        · omega
        · have := (BK.out.bu.L.block h).1; omega)))
      have ck := txW_check (B := Bs) (by rw [HLF.out]; exact n2)
      have bA' : BAt wA w.heap.size b (txW Bs) vA := bA
      have CN := Lib.hid (objnew (W := txW Bs) (bA'.bu.at_ (nums_of_check ck)) ck rfl 5)
      obtain ⟨p1, p2, p3⟩ := bA'.blk.rules
      unfold cellsW at p1
      unfold cellsW at CN
      clear bA bA' kA C1 BK XR ck X2 BH
      rw [show ((firstW.L.length : Nat) : Int) = 23 from rfl]
      have MKH : Hid (∀ W F' m, M W F' m (newS (txW Bs) 5) → M W F' m (txS Bs)) := Lib.hid (fun _ _ _ h => h)
      generalize txW Bs = W0 at *
      go_wp2_with fail
      refine CN.out.mono ?_
      rintro e wC ⟨m, F, rfl, mC0, hF, xC⟩
      have mC := MKH.out _ _ _ mC0
      have XC := Lib.hid (XA.out.trans xC)
      have FL : Hid (∀ k, F k → w.heap.size ≤ k) := Lib.hid (fun k hk => by have := hF k hk; have := XA.out.below.size; omega)
      have LTC := Lib.hid mC.lt
      obtain ⟨a1, a2, a3, a4, a5⟩ := tx_make (B := Bs) (by rw [HLF.out]; exact n2)
      have phS : (txS Bs).phase ≠ 1 := by rw [(tx_std (B := Bs) (by rw [HLF.out]; exact n2)).ph]; decide
      have C33 : Hid (∀ W [x : IsExt wC W], Calls Tryz.prog 27 #[.pointer (some ⟨m, 0, none⟩), .int .i64 33, .agg #[.bool true, .int .i64 23], .slice none 0 0] W fun e w' => e = .returned (.tuple #[.agg #[.bool true, .int .i64 24], .bool true]) ∧ Goes F m (txL Bs Bs.size) W w') := Lib.hid (fun W x =>
        pop33 (mC.ext x.out) 23 (tx_has Bs) true true 24 (txL Bs Bs.size) (fun W1 y1 => pa33 ((mC.ext x.out).ext y1) 23 true true 24 (txL Bs Bs.size) (fun W2 y2 => ptwinB (((mC.ext x.out).ext y1).ext y2) phS 23 8 24 Bs.size (by rw [HLF.out]; omega) (tx_cls Bs) a4 a5 (tx_size Bs) (tx_fmt Bs) (by omega) (txL Bs) a1 a2 a3 (fun i hi => tx_step (by rw [HLF.out]; exact n2) i hi))))
      clear a1 a2 a3 a4 a5 phS
      have AE := Lib.hid (tx_end (B := Bs) (by rw [HLF.out]; exact n2))
      rw [HLF.out] at C33 AE
      generalize txL Bs n = T at *
      have iC : IsExt wC wC := ⟨Ext.refl _⟩
      clear hF mC mC0 xC CN p1 p2 p3 XA MKH
      go_wp2_with (go_at_call 16; refine (HO.out _ _).mono ?_; rintro e w8 ⟨rfl, x8⟩; have i8 : IsExt wC w8 := ⟨(is_ext wC _).trans x8⟩; clear x8)
      refine (C33.out _).mono ?_
      rintro e wD ⟨rfl, F2, mD, vD⟩
      have X8 := Lib.hid (XC.out.trans i8.out)
      have XD : Hid (Ext w wD) := Lib.hid (Ext.of_below (Keep.below X8.out.below vD.keep X8.out.below.size (fun i hi h => by have := FL.out i h; omega)))
      have FL2 : Hid (∀ k, F2 k → w.heap.size ≤ k) := Lib.hid (fun k hk => by
        rcases vD.new k hk with h | h
        · exact FL.out k h
        · have := X8.out.below.size; omega)
      have MD := Lib.hid mD
      have LTD := Lib.hid mD.lt
      clear mD vD C33 XC FL i8 iC LTC X8
      go_upto_region 20 with (fail)
      refine wp_name (fun wz hW => ?_)
      have xz : Ext wD wz := by rw [hW]; exact is_ext _ _
      have BZ : Hid (Blk wz wD.heap.size 40 #[.bool true, .int .i64 24]) := Lib.hid (by rw [hW]; exact Blk.new _ _ _)
      have NZ : Hid (¬ F2 wD.heap.size) := Lib.hid (fun hf => by have := LTD.out _ hf; omega)
      have MZ := Lib.hid (MD.out.ext xz)
      have XZ := Lib.hid (XD.out.trans xz)
      clear hW xz MD XD LTD
      generalize wD.heap.size = g13 at *
      have CA : Hid (∀ W [x : IsExt wz W], Calls Tryz.prog 26 #[.pointer (some ⟨m, 0, none⟩), .int .i64 23] W fun e w' => ∃ va vc, e = .returned (.agg #[.int .i64 8, .int .i64 3, .int .i64 24, .bool false, .slice va ([] : List PV).length vc, .string Bs]) ∧ VA W.heap.size w' (.slice va ([] : List PV).length vc) ([] : List PV) ∧ Ext W w') := Lib.hid (fun W x => by
        obtain ⟨h1, h2, h3⟩ := AE.out.1
        have q := mthingB (MZ.out.ext x.out) 23 h1 h2
        rw [h3] at q
        exact q.mono (fun e w' ⟨he, hx⟩ => ⟨none, 0, he, ⟨row_nil _ _ _, fun k hk => by simp [Value.ownBlock] at hk, fun k hk => by simp [Value.ownBlock] at hk⟩, hx⟩)
        )
      have CB : Hid (∀ W [x : IsExt wz W], Calls Tryz.prog 26 #[.pointer (some ⟨m, 0, none⟩), .int .i64 24] W fun e w' => ∃ va vc, e = .returned (.agg #[.int .i64 8, .int .i64 3, .int .i64 25, .bool false, .slice va ([] : List PV).length vc, .string Bs]) ∧ VA W.heap.size w' (.slice va ([] : List PV).length vc) ([] : List PV) ∧ Ext W w') := Lib.hid (fun W x => by
        obtain ⟨_, h1, h2, h3, _⟩ := AE.out
        have q := mthingB (MZ.out.ext x.out) 24 h1 h2
        rw [h3] at q
        exact q.mono (fun e w' ⟨he, hx⟩ => ⟨none, 0, he, ⟨row_nil _ _ _, fun k hk => by simp [Value.ownBlock] at hk, fun k hk => by simp [Value.ownBlock] at hk⟩, hx⟩)
        )
      refine wp_any_act (fun A hA => ?_)
      have eA : A = frR20 m g13 (fun q => A.tmps.getD q undef) (fun q => A.tmps.getD q undef) := by rw [hA]; rfl
      obtain ⟨uu, huu⟩ : ∃ uu, (fun q => A.tmps.getD q undef) = uu := ⟨_, rfl⟩
      rw [huu] at eA
      rw [hA] at huu
      have HU := Lib.hid huu
      clear hA huu
      subst eA
      refine wp_region_inv (Inv := R20Inv wz m g13 8 3 Bs [] uu) (by kernel_rfl) ?_ ?_ ?_
      · refine ⟨fun _ => false, fun k => ?_, uu, rfl, by simp, ⟨?_, ?_, ?_, ?_, ?_, ?_, ?_, ?_, ?_, ?_, ?_, ?_, ?_, ?_, ?_, ?_, ?_, ?_⟩⟩
        · rw [Array.getD_eq_getD_getElem?, Array.getElem?_replicate]; split <;> rfl
        · intro h; exact absurd h (by decide)
        · intro h; exact absurd h (by decide)
        · intro h; exact absurd h (by decide)
        · intro h; exact absurd h (by decide)
        · intro h; exact absurd h (by decide)
        · exact (Ext.refl _).drew
        · intro h; exact absurd h (by decide)
        · intro h; exact absurd h (by decide)
        · intro h; exact absurd h (by decide)
        · intro h; exact absurd h (by decide)
        · intro h; exact absurd h (by decide)
        · intro h; exact absurd h (by decide)
        · intro h; exact absurd h (by decide)
        · intro h; exact absurd h (by decide)
        · intro h; exact absurd h (by decide)
        · intro h; exact absurd h (by decide)
        · intro h; exact absurd h (by decide)
        · intro h; exact absurd h (by decide)
      · rintro listed act W ii ⟨L, hL, s, rfl, hsz, I⟩ hi
        obtain ⟨hlt, hnot, hdep⟩ := (ready_iff _ _).1 hi
        have hiN : ii < 11 := hlt
        have casesN : ii = 0 ∨ ii = 1 ∨ ii = 2 ∨ ii = 3 ∨ ii = 4 ∨ ii = 5 ∨ ii = 6 ∨ ii = 7 ∨ ii = 8 ∨ ii = 9 ∨ ii = 10 := by omega
        have hn0 : L ii = false := by rw [← hL ii]; exact not_bit hnot
        clear hi hlt hiN hnot
        have iW : IsExt wz W := ⟨I.x⟩
        obtain ⟨p1, p2, p3⟩ := (BZ.out.ext I.x).rules
        have hfz := I.x.below.size
        unfold frR20
        rcases casesN with rfl | rfl | rfl | rfl | rfl | rfl | rfl | rfl | rfl | rfl | rfl
        · -- operation 0
          simp only [Region.binds, listed_bit hL] at hdep
          refine wpOp_step rfl (fun K' hK => ?_)
          go_simp
          exact hK _ _ ⟨_, bit_set hL hsz 0 (by omega), fun jx => if jx = 85 then .pointer (some ⟨m, 0, none⟩) else s jx, by first | (simp [frR20]; done) | (simp [frR20]; rfl), by simpa using hsz, ⟨fun _ => rfl, I.v1, I.v3, I.v4, I.v5, I.x, I.c6, I.c9, I.c9b, I.c10, I.c10b, I.va, I.vb, I.za, I.zb, I.ya, I.yb, I.dd⟩⟩
        · -- operation 1
          simp only [Region.binds, listed_bit hL] at hdep
          refine wpOp_step rfl (fun K' hK => ?_)
          go_simp
          exact hK _ _ ⟨_, bit_set hL hsz 1 (by omega), fun jx => if jx = 86 then .int .i64 23 else s jx, by first | (simp [frR20]; done) | (simp [frR20]; rfl), by simpa using hsz, ⟨I.v0, fun _ => rfl, I.v3, I.v4, I.v5, I.x, I.c6, I.c9, I.c9b, I.c10, I.c10b, I.va, I.vb, I.za, I.zb, I.ya, I.yb, I.dd⟩⟩
        · -- operation 2
          simp only [Region.binds, listed_bit hL] at hdep
          have d0 : L 0 = true := by first | simpa [hL] using hdep | (simp [hL, Region.binds] at hdep; simp [hdep])
          have e0 := I.v0 d0
          have d1 : L 1 = true := by first | simpa [hL] using hdep | (simp [hL, Region.binds] at hdep; simp [hdep])
          have e1 := I.v1 d1
          refine wpOp_step rfl (fun K' hK => ?_)
          rw [e0, e1]
          go_simp
          refine (CA.out _).mono ?_
          rintro e w3 ⟨va, vc, rfl, va3, x3⟩
          exact hK _ _ ⟨_, bit_set hL hsz 2 (by omega), fun jx => if jx = 87 then .agg #[.int .i64 8, .int .i64 3, .int .i64 24, .bool false, .slice va ([] : List PV).length vc, .string Bs] else s jx, by first | (simp [frR20, e0, e1]; done) | (simp [frR20, e0, e1]; rfl), by simpa using hsz, ⟨I.v0, I.v1, I.v3, I.v4, I.v5, I.x.trans x3, fun _ => rfl, I.c9, I.c9b, I.c10, I.c10b, fun _ => ⟨va, vc, rfl, va3.mono hfz⟩, fun h => by obtain ⟨v, vq, y1, y2⟩ := I.vb h; exact ⟨v, vq, y1, y2.ext x3⟩, fun h1 h2 => by obtain ⟨g, y1, y2, y3⟩ := I.za h1 h2; exact ⟨g, y1, y2, y3.ext x3⟩, fun h1 => by obtain ⟨g, v, vq, y1, y2, y3, y4⟩ := I.zb h1; exact ⟨g, v, vq, y1, y2, y3.ext x3, y4.ext x3⟩, fun h1 h2 => by obtain ⟨g, y1, y2, y3⟩ := I.ya h1 h2; exact ⟨g, y1, y2, y3.ext x3⟩, fun h1 => by obtain ⟨g, v, vq, y1, y2, y3, y4⟩ := I.yb h1; exact ⟨g, v, vq, y1, y2, y3.ext x3, y4.ext x3⟩, I.dd⟩⟩
        · -- operation 3
          simp only [Region.binds, listed_bit hL] at hdep
          refine wpOp_step rfl (fun K' hK => ?_)
          go_simp
          exact hK _ _ ⟨_, bit_set hL hsz 3 (by omega), fun jx => if jx = 88 then .pointer (some ⟨m, 0, none⟩) else s jx, by first | (simp [frR20]; done) | (simp [frR20]; rfl), by simpa using hsz, ⟨I.v0, I.v1, fun _ => rfl, I.v4, I.v5, I.x, I.c6, I.c9, I.c9b, I.c10, I.c10b, I.va, I.vb, I.za, I.zb, I.ya, I.yb, I.dd⟩⟩
        · -- operation 4
          simp only [Region.binds, listed_bit hL] at hdep
          refine wpOp_step rfl (fun K' hK => ?_)
          go_simp
          exact hK _ _ ⟨_, bit_set hL hsz 4 (by omega), fun jx => if jx = 89 then .pointer (some ⟨g13, 1, none⟩) else s jx, by first | (simp [frR20]; done) | (simp [frR20]; rfl), by simpa using hsz, ⟨I.v0, I.v1, I.v3, fun _ => rfl, I.v5, I.x, I.c6, I.c9, I.c9b, I.c10, I.c10b, I.va, I.vb, I.za, I.zb, I.ya, I.yb, I.dd⟩⟩
        · -- operation 5
          simp only [Region.binds, listed_bit hL] at hdep
          have d4 : L 4 = true := by first | simpa [hL] using hdep | (simp [hL, Region.binds] at hdep; simp [hdep])
          have e4 := I.v4 d4
          refine wpOp_step rfl (fun K' hK => ?_)
          rw [e4]
          go_simp
          exact hK _ _ ⟨_, bit_set hL hsz 5 (by omega), fun jx => if jx = 90 then .int .i64 24 else s jx, by first | (simp [frR20, e4]; done) | (simp [frR20, e4]; rfl), by simpa using hsz, ⟨I.v0, I.v1, I.v3, I.v4, fun _ => rfl, I.x, I.c6, I.c9, I.c9b, I.c10, I.c10b, I.va, I.vb, I.za, I.zb, I.ya, I.yb, I.dd⟩⟩
        · -- operation 6
          simp only [Region.binds, listed_bit hL] at hdep
          have d3 : L 3 = true := by first | simpa [hL] using hdep | (simp [hL, Region.binds] at hdep; simp [hdep])
          have e3 := I.v3 d3
          have d5 : L 5 = true := by first | simpa [hL] using hdep | (simp [hL, Region.binds] at hdep; simp [hdep])
          have e5 := I.v5 d5
          have d2 : L 2 = true := by first | simpa [hL] using hdep | (simp [hL, Region.binds] at hdep; simp [hdep])
          refine wpOp_step rfl (fun K' hK => ?_)
          rw [e3, e5]
          go_simp
          refine (CB.out _).mono ?_
          rintro e w3 ⟨va, vc, rfl, va3, x3⟩
          exact hK _ _ ⟨_, bit_set hL hsz 6 (by omega), fun jx => if jx = 91 then .agg #[.int .i64 8, .int .i64 3, .int .i64 25, .bool false, .slice va ([] : List PV).length vc, .string Bs] else s jx, by first | (simp [frR20, e3, e5]; done) | (simp [frR20, e3, e5]; rfl), by simpa using hsz, ⟨I.v0, I.v1, I.v3, I.v4, I.v5, I.x.trans x3, fun _ => d2, fun _ => rfl, I.c9b, I.c10, I.c10b, fun h => by obtain ⟨v, vq, y1, y2⟩ := I.va h; exact ⟨v, vq, y1, y2.ext x3⟩, fun _ => ⟨va, vc, rfl, va3.mono hfz⟩, fun h1 h2 => by obtain ⟨g, y1, y2, y3⟩ := I.za h1 h2; exact ⟨g, y1, y2, y3.ext x3⟩, fun h1 => by obtain ⟨g, v, vq, y1, y2, y3, y4⟩ := I.zb h1; exact ⟨g, v, vq, y1, y2, y3.ext x3, y4.ext x3⟩, fun h1 h2 => by obtain ⟨g, y1, y2, y3⟩ := I.ya h1 h2; exact ⟨g, y1, y2, y3.ext x3⟩, fun h1 => by obtain ⟨g, v, vq, y1, y2, y3, y4⟩ := I.yb h1; exact ⟨g, v, vq, y1, y2, y3.ext x3, y4.ext x3⟩, I.dd⟩⟩
        · -- operation 7
          simp only [Region.binds, listed_bit hL] at hdep
          have n9 : L 9 = false := by cases hh : L 9 with | false => rfl | true => rw [I.c9b hh] at hn0; cases hn0
          have hd : L 8 = true → Value.pointer (some ⟨W.heap.size, 0, none⟩) ≠ s 16 := fun h8 e => by
            cases hh : L 10 with
            | false => obtain ⟨g', y1, _, y3⟩ := I.ya h8 hh; rw [y1] at e; injection e with e; injection e with e; injection e with e; have := y3.lt; omega
            | true => obtain ⟨g', _, _, y1, _, y3, _⟩ := I.yb hh; rw [y1] at e; injection e with e; injection e with e; injection e with e; have := y3.lt; omega
          refine wpOp_step rfl (fun K' hK => ?_)
          go_simp
          exact hK _ _ ⟨_, bit_set hL hsz 7 (by omega), fun jx => if jx = 15 then .pointer (some ⟨W.heap.size, 0, none⟩) else s jx, by first | (simp [frR20]; done) | (simp [frR20]; rfl), by simpa using hsz, ⟨I.v0, I.v1, I.v3, I.v4, I.v5, I.x.trans ((Ext.refl _).alloc _), I.c6, I.c9, fun _ => rfl, I.c10, I.c10b, fun h => by obtain ⟨v, vq, y1, y2⟩ := I.va h; exact ⟨v, vq, y1, y2.ext ((Ext.refl _).alloc _)⟩, fun h => by obtain ⟨v, vq, y1, y2⟩ := I.vb h; exact ⟨v, vq, y1, y2.ext ((Ext.refl _).alloc _)⟩, fun _ _ => ⟨_, rfl, hfz, Blk.new _ _ _⟩, fun h => absurd (show L 9 = true from h) (by rw [n9]; decide), fun h1 h2 => by obtain ⟨g, y1, y2, y3⟩ := I.ya h1 h2; exact ⟨g, y1, y2, y3.ext ((Ext.refl _).alloc _)⟩, fun h1 => by obtain ⟨g, v, vq, y1, y2, y3, y4⟩ := I.yb h1; exact ⟨g, v, vq, y1, y2, y3.ext ((Ext.refl _).alloc _), y4.ext ((Ext.refl _).alloc _)⟩, fun _ h8 => hd h8⟩⟩
        · -- operation 8
          simp only [Region.binds, listed_bit hL] at hdep
          have n10 : L 10 = false := by cases hh : L 10 with | false => rfl | true => rw [I.c10b hh] at hn0; cases hn0
          have hd : L 7 = true → s 15 ≠ Value.pointer (some ⟨W.heap.size, 0, none⟩) := fun h7 e => by
            cases hh : L 9 with
            | false => obtain ⟨g', y1, _, y3⟩ := I.za h7 hh; rw [y1] at e; injection e with e; injection e with e; injection e with e; have := y3.lt; omega
            | true => obtain ⟨g', _, _, y1, _, y3, _⟩ := I.zb hh; rw [y1] at e; injection e with e; injection e with e; injection e with e; have := y3.lt; omega
          refine wpOp_step rfl (fun K' hK => ?_)
          go_simp
          exact hK _ _ ⟨_, bit_set hL hsz 8 (by omega), fun jx => if jx = 16 then .pointer (some ⟨W.heap.size, 0, none⟩) else s jx, by first | (simp [frR20]; done) | (simp [frR20]; rfl), by simpa using hsz, ⟨I.v0, I.v1, I.v3, I.v4, I.v5, I.x.trans ((Ext.refl _).alloc _), I.c6, I.c9, I.c9b, I.c10, fun _ => rfl, fun h => by obtain ⟨v, vq, y1, y2⟩ := I.va h; exact ⟨v, vq, y1, y2.ext ((Ext.refl _).alloc _)⟩, fun h => by obtain ⟨v, vq, y1, y2⟩ := I.vb h; exact ⟨v, vq, y1, y2.ext ((Ext.refl _).alloc _)⟩, fun h1 h2 => by obtain ⟨g, y1, y2, y3⟩ := I.za h1 h2; exact ⟨g, y1, y2, y3.ext ((Ext.refl _).alloc _)⟩, fun h1 => by obtain ⟨g, v, vq, y1, y2, y3, y4⟩ := I.zb h1; exact ⟨g, v, vq, y1, y2, y3.ext ((Ext.refl _).alloc _), y4.ext ((Ext.refl _).alloc _)⟩, fun _ _ => ⟨_, rfl, hfz, Blk.new _ _ _⟩, fun h => absurd (show L 10 = true from h) (by rw [n10]; decide), fun h7 _ => hd h7⟩⟩
        · -- operation 9
          simp only [Region.binds, listed_bit hL] at hdep
          have d7 : L 7 = true := by first | simpa [hL] using hdep | (simp [hL, Region.binds] at hdep; simp [hdep])
          have d2 : L 2 = true := by first | simpa [hL] using hdep | (simp [hL, Region.binds] at hdep; simp [hdep])
          have d6 : L 6 = true := by first | simpa [hL] using hdep | (simp [hL, Region.binds] at hdep; simp [hdep])
          obtain ⟨va, vc, e2, hv⟩ := I.va d2
          obtain ⟨g, e7, hg, hB⟩ := I.za d7 hn0
          obtain ⟨q1, q2, q3⟩ := hB.rules
          have n10 : L 10 = false := by cases hh : L 10 with | false => rfl | true => rw [I.c10 hh] at hn0; cases hn0
          have hd : L 8 = true → ∀ g', s 16 = .pointer (some ⟨g', 0, none⟩) → g' ≠ g := fun h8 g' y e => I.dd d7 h8 (by rw [e7, y, e])
          refine wpOp_step rfl (fun K' hK => ?_)
          rw [e2, e7]
          have IX := Lib.hid I
          have HB := Lib.hid hB
          have HV := Lib.hid hv
          clear I hB hv
          go_simp
          exact hK _ _ ⟨_, bit_set hL hsz 9 (by omega), s, by first | (simp [frR20, e2, e7]; done) | (simp [frR20, e2, e7]; rfl), by simpa using hsz, ⟨IX.out.v0, IX.out.v1, IX.out.v3, IX.out.v4, IX.out.v5, ((((((IX.out.x.setNew (p := ⟨g, 0, none⟩) hg _).setNew (p := ⟨g, 1, none⟩) hg _).setNew (p := ⟨g, 2, none⟩) hg _).setNew (p := ⟨g, 3, none⟩) hg _).setNew (p := ⟨g, 4, none⟩) hg _).setNew (p := ⟨g, 5, none⟩) hg _), IX.out.c6, fun _ => d6, fun _ => d7, fun _ => rfl, IX.out.c10b, fun h => by obtain ⟨v, vq, y1, y2⟩ := IX.out.va h; exact ⟨v, vq, y1, y2.far HB.out (((((((Keep.refl (· = g) W).setCell (p := ⟨g, 0, none⟩) rfl _).setCell (p := ⟨g, 1, none⟩) rfl _).setCell (p := ⟨g, 2, none⟩) rfl _).setCell (p := ⟨g, 3, none⟩) rfl _).setCell (p := ⟨g, 4, none⟩) rfl _).setCell (p := ⟨g, 5, none⟩) rfl _)⟩, fun h => by obtain ⟨v, vq, y1, y2⟩ := IX.out.vb h; exact ⟨v, vq, y1, y2.far HB.out (((((((Keep.refl (· = g) W).setCell (p := ⟨g, 0, none⟩) rfl _).setCell (p := ⟨g, 1, none⟩) rfl _).setCell (p := ⟨g, 2, none⟩) rfl _).setCell (p := ⟨g, 3, none⟩) rfl _).setCell (p := ⟨g, 4, none⟩) rfl _).setCell (p := ⟨g, 5, none⟩) rfl _)⟩, fun _ h => absurd h (by simp), fun _ => ⟨g, va, vc, e7, hg, ((((((HB.out.set 0 _).set 1 _).set 2 _).set 3 _).set 4 _).set 5 _), HV.out.far HB.out (((((((Keep.refl (· = g) W).setCell (p := ⟨g, 0, none⟩) rfl _).setCell (p := ⟨g, 1, none⟩) rfl _).setCell (p := ⟨g, 2, none⟩) rfl _).setCell (p := ⟨g, 3, none⟩) rfl _).setCell (p := ⟨g, 4, none⟩) rfl _).setCell (p := ⟨g, 5, none⟩) rfl _)⟩, fun h1 h2 => by obtain ⟨g2, y1, y2, y3⟩ := IX.out.ya h1 h2; exact ⟨g2, y1, y2, y3.keep (((((((Keep.refl (· = g) W).setCell (p := ⟨g, 0, none⟩) rfl _).setCell (p := ⟨g, 1, none⟩) rfl _).setCell (p := ⟨g, 2, none⟩) rfl _).setCell (p := ⟨g, 3, none⟩) rfl _).setCell (p := ⟨g, 4, none⟩) rfl _).setCell (p := ⟨g, 5, none⟩) rfl _) (hd h1 g2 y1)⟩, fun h => absurd (show L 10 = true from h) (by rw [n10]; decide), IX.out.dd⟩⟩
        · -- operation 10
          simp only [Region.binds, listed_bit hL] at hdep
          have d8 : L 8 = true := by first | simpa [hL] using hdep | (simp [hL, Region.binds] at hdep; simp [hdep])
          have d6 : L 6 = true := by first | simpa [hL] using hdep | (simp [hL, Region.binds] at hdep; simp [hdep])
          have d9 : L 9 = true := by first | simpa [hL] using hdep | (simp [hL, Region.binds] at hdep; simp [hdep])
          obtain ⟨va, vc, e6, hv⟩ := I.vb d6
          obtain ⟨g, e8, hg, hB⟩ := I.ya d8 hn0
          obtain ⟨q1, q2, q3⟩ := hB.rules
          have d7 := I.c9b d9
          have hd : ∀ g', s 15 = .pointer (some ⟨g', 0, none⟩) → g' ≠ g := fun g' y e => I.dd d7 d8 (by rw [e8, y, e])
          refine wpOp_step rfl (fun K' hK => ?_)
          rw [e6, e8]
          have IX := Lib.hid I
          have HB := Lib.hid hB
          have HV := Lib.hid hv
          clear I hB hv
          go_simp
          exact hK _ _ ⟨_, bit_set hL hsz 10 (by omega), s, by first | (simp [frR20, e6, e8]; done) | (simp [frR20, e6, e8]; rfl), by simpa using hsz, ⟨IX.out.v0, IX.out.v1, IX.out.v3, IX.out.v4, IX.out.v5, ((((((IX.out.x.setNew (p := ⟨g, 0, none⟩) hg _).setNew (p := ⟨g, 1, none⟩) hg _).setNew (p := ⟨g, 2, none⟩) hg _).setNew (p := ⟨g, 3, none⟩) hg _).setNew (p := ⟨g, 4, none⟩) hg _).setNew (p := ⟨g, 5, none⟩) hg _), IX.out.c6, IX.out.c9, IX.out.c9b, fun _ => d9, fun _ => d8, fun h => by obtain ⟨v, vq, y1, y2⟩ := IX.out.va h; exact ⟨v, vq, y1, y2.far HB.out (((((((Keep.refl (· = g) W).setCell (p := ⟨g, 0, none⟩) rfl _).setCell (p := ⟨g, 1, none⟩) rfl _).setCell (p := ⟨g, 2, none⟩) rfl _).setCell (p := ⟨g, 3, none⟩) rfl _).setCell (p := ⟨g, 4, none⟩) rfl _).setCell (p := ⟨g, 5, none⟩) rfl _)⟩, fun h => by obtain ⟨v, vq, y1, y2⟩ := IX.out.vb h; exact ⟨v, vq, y1, y2.far HB.out (((((((Keep.refl (· = g) W).setCell (p := ⟨g, 0, none⟩) rfl _).setCell (p := ⟨g, 1, none⟩) rfl _).setCell (p := ⟨g, 2, none⟩) rfl _).setCell (p := ⟨g, 3, none⟩) rfl _).setCell (p := ⟨g, 4, none⟩) rfl _).setCell (p := ⟨g, 5, none⟩) rfl _)⟩, fun h1 h2 => absurd (show L 9 = false from h2) (by rw [d9]; decide), fun h1 => by obtain ⟨g2, v2, v2q, y1, y2, y3, y4⟩ := IX.out.zb d9; exact ⟨g2, v2, v2q, y1, y2, y3.keep (((((((Keep.refl (· = g) W).setCell (p := ⟨g, 0, none⟩) rfl _).setCell (p := ⟨g, 1, none⟩) rfl _).setCell (p := ⟨g, 2, none⟩) rfl _).setCell (p := ⟨g, 3, none⟩) rfl _).setCell (p := ⟨g, 4, none⟩) rfl _).setCell (p := ⟨g, 5, none⟩) rfl _) (hd g2 y1), y4.far HB.out (((((((Keep.refl (· = g) W).setCell (p := ⟨g, 0, none⟩) rfl _).setCell (p := ⟨g, 1, none⟩) rfl _).setCell (p := ⟨g, 2, none⟩) rfl _).setCell (p := ⟨g, 3, none⟩) rfl _).setCell (p := ⟨g, 4, none⟩) rfl _).setCell (p := ⟨g, 5, none⟩) rfl _)⟩, fun _ h => absurd h (by simp), fun _ => ⟨g, va, vc, e8, hg, ((((((HB.out.set 0 _).set 1 _).set 2 _).set 3 _).set 4 _).set 5 _), HV.out.far HB.out (((((((Keep.refl (· = g) W).setCell (p := ⟨g, 0, none⟩) rfl _).setCell (p := ⟨g, 1, none⟩) rfl _).setCell (p := ⟨g, 2, none⟩) rfl _).setCell (p := ⟨g, 3, none⟩) rfl _).setCell (p := ⟨g, 4, none⟩) rfl _).setCell (p := ⟨g, 5, none⟩) rfl _)⟩, IX.out.dd⟩⟩
      · rintro listed act W0 ⟨L, hL, s, rfl, hsz, I⟩ hr
        have ALL : ∀ i, i < 11 → L i = true := fun i hi => by rw [← hL i]; exact all_listed_m (by kernel_rfl) hsz hr i hi
        obtain ⟨ga, aA, cA, eA, hga, bA, vaA⟩ := I.zb (ALL 9 (by omega))
        obtain ⟨gb, aB, cB, eB, hgb, bB, vaB⟩ := I.yb (ALL 10 (by omega))
        have nab : ga ≠ gb := fun e => I.dd (ALL 7 (by omega)) (ALL 8 (by omega)) (by rw [eA, eB, e])
        have xN := I.x
        clear I hL ALL hr hsz
        unfold frR20
        dsimp only
        rw [eA, eB, ← HU.out]
        clear HU eA eB
        simp only [Array.getD_eq_getD_getElem?, List.getElem?_toArray, List.getElem?_cons_succ, List.getElem?_cons_zero, Option.getD_some]
        obtain ⟨r1, r2, r3⟩ := bA.rules
        obtain ⟨q1, q2, q3⟩ := bB.rules
        go_upto_region 22 with (fail)
        refine wp_name (fun w10 hW => ?_)
        have bA' : Blk w10 ga 62 #[.int .i64 8, .int .i64 3, .int .i64 24, .bool false, .slice aA ([] : List PV).length cA, .string Bs] := by rw [hW]; exact bA.far nab _
        have bB' : Blk w10 gb 62 #[.int .i64 8, .int .i64 3, .int .i64 24, .bool false, .slice aB ([] : List PV).length cB, .string Bs] := by rw [hW]; exact bB.set 2 _
        have vaA' : VA wz.heap.size w10 (.slice aA ([] : List PV).length cA) ([] : List PV) := by rw [hW]; exact vaA.far bB ((Keep.refl (· = gb) W0).setCell (p := ⟨gb, 2, none⟩) rfl _)
        have vaB' : VA wz.heap.size w10 (.slice aB ([] : List PV).length cB) ([] : List PV) := by rw [hW]; exact vaB.far bB ((Keep.refl (· = gb) W0).setCell (p := ⟨gb, 2, none⟩) rfl _)
        have x10 : Ext wz w10 := by rw [hW]; exact xN.setNew (p := ⟨gb, 2, none⟩) hgb _
        have hl10 : ([] : List PV).length ≤ 1000 := by decide
        have CS := Lib.hid (same00 w10 8 3 24 false Bs _ _ ([] : List PV) vaA'.vals vaB'.vals hl10)
        obtain ⟨r1, r2, r3⟩ := bA'.rules
        obtain ⟨q1, q2, q3⟩ := bB'.rules
        have BA10 := Lib.hid bA'
        have VA10 := Lib.hid vaA'
        have X10 := Lib.hid x10
        clear hW bA bB bA' bB' vaA vaB vaA' vaB' x10 xN nab CA CB hgb
        go_wp2_with fail
        refine CS.out.mono ?_
        rintro e wy ⟨rfl, xy⟩
        have XWY := Lib.hid (X10.out.trans xy)
        have MY := Lib.hid (MZ.out.ext XWY.out)
        have BY := Lib.hid (BZ.out.ext XWY.out)
        have XY := Lib.hid (XZ.out.trans XWY.out)
        have BA := Lib.hid (BA10.out.ext xy)
        have VAY := Lib.hid (VA10.out.ext xy)
        have HGA := Lib.hid hga
        have LTZ := Lib.hid MZ.out.lt
        have AW := Lib.hid awake18
        clear CS BA10 VA10 X10 MZ BZ XZ xy r1 r2 r3 q1 q2 q3 hga
        by_cases n0 : n = 0
        · have z0' : ((n : Int) == 0) = true := beq_iff_eq.2 (by omega)
          go_wp2_with fail
          refine (AW.out _).mono ?_
          rintro e w12 ⟨rfl, x12⟩
          have XE := Lib.hid (XY.out.trans x12)
          clear x12
          go_wp2_with fail
          go_ret
          exact ⟨rfl, XE.out.below⟩
        · have z0' : ((n : Int) == 0) = false := beq_eq_false_iff_ne.2 (by omega)
          obtain ⟨_, hh24, hf24, _, hs24, hrest⟩ := AE.out
          have h1m : T.may ⟨false, 1⟩ = true := MS.fits_small (n := 1) (by omega)
          have h7m : T.may ⟨false, 7⟩ = true := MS.fits_small (n := 7) (by omega)
          obtain ⟨hok, hcp⟩ := hrest (by omega)
          have hs0 : (((0 : Nat) : Nat) : Int) < T.size 24 := by rw [hs24]; omega
          obtain ⟨PT, hPT⟩ : ∃ P, T.putB 24 0 7 = P := ⟨_, rfl⟩
          rw [hPT] at hcp
          have CO : Hid (∀ W F', M W F' m T → ∀ gs, Blk W gs 40 #[.bool false, .int .i64 1, .bool false, .int .i64 7] → ¬ F' gs → Calls Tryz.prog 27 #[.pointer (some ⟨m, 0, none⟩), .int .i64 25, .agg #[.bool true, .int .i64 24], .slice (some ⟨gs, 0, none⟩) 2 2] W fun e w' => e = .returned (.tuple #[.agg #[.bool false, .int .i64 7], .bool true]) ∧ Goes F' m PT W w') := Lib.hid (fun W F' hM gs hb hn =>
            pop25 hM 24 1 hh24 h1m false 7 h7m gs 2 hb hn false true 7 PT (fun W' x' => by
              have q := pset_b (hM.ext x') 24 (by omega) 0 hs0 (by omega) 7 (by omega) hf24 hok
              rw [← hPT]
              exact q.mono (fun e w' ⟨a, b, c⟩ => ⟨a, ⟨F', b, c, fun _ h => .inl h⟩⟩)))
          have HCP := Lib.hid hcp
          clear hcp hok hrest hs24 hf24 hh24 hs0 h1m h7m hPT AE
          go_upto_region 26 with (fail)
          refine wp_any_act (fun A hA => ?_)
          have eA : A = frR26 m g13 ga gb (fun q => A.tmps.getD q undef) (fun q => A.tmps.getD q undef) := by rw [hA]; rfl
          obtain ⟨uu, huu⟩ : ∃ uu, (fun q => A.tmps.getD q undef) = uu := ⟨_, rfl⟩
          rw [huu] at eA
          rw [hA] at huu
          have HU := Lib.hid huu
          clear hA huu
          subst eA
          refine wp_region_inv (Inv := R26Inv wy m g13 ga gb T PT F2 uu) (by kernel_rfl) ?_ ?_ ?_
          · refine ⟨fun _ => false, fun k => ?_, uu, F2, rfl, by simp, ⟨?_, ?_, ?_, ?_, ?_, ?_, ?_, ?_, ?_, ?_, ?_, ?_, ?_, ?_, ?_, ?_, ?_, ?_⟩⟩
            · rw [Array.getD_eq_getD_getElem?, Array.getElem?_replicate]; split <;> rfl
            · intro h; exact absurd h (by decide)
            · intro h; exact absurd h (by decide)
            · intro h; exact absurd h (by decide)
            · intro h; exact absurd h (by decide)
            · intro h; exact absurd h (by decide)
            · intro h; exact absurd h (by decide)
            · intro h; exact absurd h (by decide)
            · intro h; exact absurd h (by decide)
            · intro h; exact absurd h (by decide)
            · exact fun _ => MY.out.ext ((Ext.refl _).drew)
            · intro h; exact absurd h (by decide)
            · exact Mov.of_ext ((Ext.refl _).drew)
            · intro h; exact absurd h (by decide)
            · intro h; exact absurd h (by decide)
            · intro h; exact absurd h (by decide)
            · intro h; exact absurd h (by decide)
            · intro h; exact absurd h (by decide)
            · intro h; exact absurd h (by decide)
          · rintro listed act W ii ⟨L, hL, s, F8, rfl, hsz, I⟩ hi
            obtain ⟨hlt, hnot, hdep⟩ := (ready_iff _ _).1 hi
            have hiN : ii < 12 := hlt
            have casesN : ii = 0 ∨ ii = 1 ∨ ii = 2 ∨ ii = 3 ∨ ii = 4 ∨ ii = 5 ∨ ii = 6 ∨ ii = 7 ∨ ii = 8 ∨ ii = 9 ∨ ii = 10 ∨ ii = 11 := by omega
            have hn0 : L ii = false := by rw [← hL ii]; exact not_bit hnot
            clear hi hlt hiN hnot
            obtain ⟨b13, n13⟩ := I.mv.blk BY.out NZ.out
            obtain ⟨p1, p2, p3⟩ := b13.rules
            have hfz := I.mv.keep.size
            have hlt8 : ∀ k, F8 k → k < W.heap.size := fun k hk => by cases hh : L 5 with | false => exact (I.ma hh).lt k hk | true => exact (I.mb hh).lt k hk
            unfold frR26
            rcases casesN with rfl | rfl | rfl | rfl | rfl | rfl | rfl | rfl | rfl | rfl | rfl | rfl
            · -- operation 0
              simp only [Region.binds, listed_bit hL] at hdep
              refine wpOp_step rfl (fun K' hK => ?_)
              go_simp
              exact hK _ _ ⟨_, bit_set hL hsz 0 (by omega), fun jx => if jx = 103 then .pointer (some ⟨m, 0, none⟩) else s jx, F8, by first | (simp [frR26]; done) | (simp [frR26]; rfl), by simpa using hsz, ⟨fun _ => rfl, I.v1, I.v2, I.v3, I.v5, I.v6, I.v7, I.v8, I.v11, I.ma, I.mb, I.mv, I.c6, I.c7, I.sl, I.k10, I.za, I.zb⟩⟩
            · -- operation 1
              simp only [Region.binds, listed_bit hL] at hdep
              refine wpOp_step rfl (fun K' hK => ?_)
              go_simp
              exact hK _ _ ⟨_, bit_set hL hsz 1 (by omega), fun jx => if jx = 104 then .agg #[.bool true, .int .i64 24] else s jx, F8, by first | (simp [frR26]; done) | (simp [frR26]; rfl), by simpa using hsz, ⟨I.v0, fun _ => rfl, I.v2, I.v3, I.v5, I.v6, I.v7, I.v8, I.v11, I.ma, I.mb, I.mv, I.c6, I.c7, I.sl, I.k10, I.za, I.zb⟩⟩
            · -- operation 2
              simp only [Region.binds, listed_bit hL] at hdep
              refine wpOp_step rfl (fun K' hK => ?_)
              go_simp
              refine (HN.out _ _).mono ?_
              rintro e w3 ⟨rfl, x3⟩
              exact hK _ _ ⟨_, bit_set hL hsz 2 (by omega), fun jx => if jx = 105 then .agg #[.bool false, .int .i64 1] else s jx, F8, by first | (simp [frR26]; done) | (simp [frR26]; rfl), by simpa using hsz, ⟨I.v0, I.v1, fun _ => rfl, I.v3, I.v5, I.v6, I.v7, I.v8, I.v11, fun h => (I.ma h).ext x3, fun h => (I.mb h).ext x3, I.mv.ext x3, I.c6, I.c7, fun h1 h2 => by obtain ⟨gs, y1, y2, y3⟩ := I.sl h1 h2; exact ⟨gs, y1, y2.ext x3, y3⟩, I.k10, fun h1 h2 => by obtain ⟨g, y1, y2, y3, y4⟩ := I.za h1 h2; exact ⟨g, y1, y2, y3.ext x3, y4⟩, fun h1 => by obtain ⟨g, y1, y2, y3, y4⟩ := I.zb h1; exact ⟨g, y1, y2, y3.ext x3, y4⟩⟩⟩
            · -- operation 3
              simp only [Region.binds, listed_bit hL] at hdep
              refine wpOp_step rfl (fun K' hK => ?_)
              go_simp
              refine (HN.out _ _).mono ?_
              rintro e w3 ⟨rfl, x3⟩
              exact hK _ _ ⟨_, bit_set hL hsz 3 (by omega), fun jx => if jx = 106 then .agg #[.bool false, .int .i64 7] else s jx, F8, by first | (simp [frR26]; done) | (simp [frR26]; rfl), by simpa using hsz, ⟨I.v0, I.v1, I.v2, fun _ => rfl, I.v5, I.v6, I.v7, I.v8, I.v11, fun h => (I.ma h).ext x3, fun h => (I.mb h).ext x3, I.mv.ext x3, I.c6, I.c7, fun h1 h2 => by obtain ⟨gs, y1, y2, y3⟩ := I.sl h1 h2; exact ⟨gs, y1, y2.ext x3, y3⟩, I.k10, fun h1 h2 => by obtain ⟨g, y1, y2, y3, y4⟩ := I.za h1 h2; exact ⟨g, y1, y2, y3.ext x3, y4⟩, fun h1 => by obtain ⟨g, y1, y2, y3, y4⟩ := I.zb h1; exact ⟨g, y1, y2, y3.ext x3, y4⟩⟩⟩
            · -- operation 4
              simp only [Region.binds, listed_bit hL] at hdep
              have d2 : L 2 = true := by first | simpa [hL] using hdep | (simp [hL, Region.binds] at hdep; simp [hdep])
              have e2 := I.v2 d2
              have d3 : L 3 = true := by first | simpa [hL] using hdep | (simp [hL, Region.binds] at hdep; simp [hdep])
              have e3 := I.v3 d3
              refine wpOp_step rfl (fun K' hK => ?_)
              rw [e2, e3]
              go_simp
              exact hK _ _ ⟨_, bit_set hL hsz 4 (by omega), fun jx => if jx = 107 then .slice (some ⟨W.heap.size, 0, none⟩) 2 2 else s jx, F8, by first | (simp [frR26, e2, e3]; done) | (simp [frR26, e2, e3]; rfl), by simpa using hsz, ⟨I.v0, I.v1, I.v2, I.v3, I.v5, I.v6, I.v7, I.v8, I.v11, fun h => (I.ma h).ext ((Ext.refl _).alloc _), fun h => (I.mb h).ext ((Ext.refl _).alloc _), I.mv.ext ((Ext.refl _).alloc _), I.c6, I.c7, fun _ _ => ⟨_, rfl, Blk.new _ _ _, fun hf => by have := hlt8 _ hf; omega⟩, I.k10, fun h1 h2 => by obtain ⟨g, y1, y2, y3, y4⟩ := I.za h1 h2; exact ⟨g, y1, y2, y3.ext ((Ext.refl _).alloc _), y4⟩, fun h1 => by obtain ⟨g, y1, y2, y3, y4⟩ := I.zb h1; exact ⟨g, y1, y2, y3.ext ((Ext.refl _).alloc _), y4⟩⟩⟩
            · -- operation 5
              simp only [Region.binds, listed_bit hL] at hdep
              have d0 : L 0 = true := by first | simpa [hL] using hdep | (simp [hL, Region.binds] at hdep; simp [hdep])
              have e0 := I.v0 d0
              have d1 : L 1 = true := by first | simpa [hL] using hdep | (simp [hL, Region.binds] at hdep; simp [hdep])
              have e1 := I.v1 d1
              have d4 : L 4 = true := by first | simpa [hL] using hdep | (simp [hL, Region.binds] at hdep; simp [hdep])
              obtain ⟨gs, e4, hgs, ngs⟩ := I.sl d4 hn0
              refine wpOp_step rfl (fun K' hK => ?_)
              rw [e0, e1, e4]
              go_simp
              refine (CO.out _ _ (I.ma hn0) gs hgs ngs).mono ?_
              rintro e w3 ⟨rfl, F9, m9, v9⟩
              exact hK _ _ ⟨_, bit_set hL hsz 5 (by omega), fun jx => if jx = 108 then .tuple #[.agg #[.bool false, .int .i64 7], .bool true] else s jx, F9, by first | (simp [frR26, e0, e1, e4]; done) | (simp [frR26, e0, e1, e4]; rfl), by simpa using hsz, ⟨I.v0, I.v1, I.v2, I.v3, fun _ => rfl, I.v6, I.v7, I.v8, I.v11, fun h => absurd h (by simp), fun _ => m9, I.mv.trans v9, fun _ => rfl, I.c7, fun _ h => absurd h (by simp), I.k10, fun h1 h2 => by obtain ⟨g, y1, y2, y3, y4⟩ := I.za h1 h2; obtain ⟨z1, z2⟩ := v9.blk y3 y4; exact ⟨g, y1, y2, z1, z2⟩, fun h1 => by obtain ⟨g, y1, y2, y3, y4⟩ := I.zb h1; obtain ⟨z1, z2⟩ := v9.blk y3 y4; exact ⟨g, y1, y2, z1, z2⟩⟩⟩
            · -- operation 6
              simp only [Region.binds, listed_bit hL] at hdep
              have d5 : L 5 = true := by first | simpa [hL] using hdep | (simp [hL, Region.binds] at hdep; simp [hdep])
              have e5 := I.v5 d5
              refine wpOp_step rfl (fun K' hK => ?_)
              rw [e5]
              go_simp
              exact hK _ _ ⟨_, bit_set hL hsz 6 (by omega), fun jx => if jx = 102 then .tuple #[.agg #[.bool false, .int .i64 7], .bool true] else s jx, F8, by first | (simp [frR26, e5]; done) | (simp [frR26, e5]; rfl), by simpa using hsz, ⟨I.v0, I.v1, I.v2, I.v3, I.v5, fun _ => rfl, I.v7, I.v8, I.v11, I.ma, I.mb, I.mv, fun _ => d5, fun _ => rfl, I.sl, I.k10, I.za, I.zb⟩⟩
            · -- operation 7
              simp only [Region.binds, listed_bit hL] at hdep
              have d6 : L 6 = true := by first | simpa [hL] using hdep | (simp [hL, Region.binds] at hdep; simp [hdep])
              have e6 := I.v6 d6
              refine wpOp_step rfl (fun K' hK => ?_)
              rw [e6]
              go_simp
              exact hK _ _ ⟨_, bit_set hL hsz 7 (by omega), fun jx => if jx = 109 then .agg #[.bool false, .int .i64 7] else s jx, F8, by first | (simp [frR26, e6]; done) | (simp [frR26, e6]; rfl), by simpa using hsz, ⟨I.v0, I.v1, I.v2, I.v3, I.v5, I.v6, fun _ => rfl, I.v8, I.v11, I.ma, I.mb, I.mv, I.c6, fun _ => d6, I.sl, I.k10, I.za, I.zb⟩⟩
            · -- operation 8
              simp only [Region.binds, listed_bit hL] at hdep
              have d6 : L 6 = true := by first | simpa [hL] using hdep | (simp [hL, Region.binds] at hdep; simp [hdep])
              have e6 := I.v6 d6
              refine wpOp_step rfl (fun K' hK => ?_)
              rw [e6]
              go_simp
              exact hK _ _ ⟨_, bit_set hL hsz 8 (by omega), fun jx => if jx = 110 then .bool true else s jx, F8, by first | (simp [frR26, e6]; done) | (simp [frR26, e6]; rfl), by simpa using hsz, ⟨I.v0, I.v1, I.v2, I.v3, I.v5, I.v6, I.v7, fun _ => rfl, I.v11, I.ma, I.mb, I.mv, I.c6, I.c7, I.sl, I.k10, I.za, I.zb⟩⟩
            · -- operation 9
              simp only [Region.binds, listed_bit hL] at hdep
              have n10 : L 10 = false := by cases hh : L 10 with | false => rfl | true => rw [I.k10 hh] at hn0; cases hn0
              refine wpOp_step rfl (fun K' hK => ?_)
              go_simp
              exact hK _ _ ⟨_, bit_set hL hsz 9 (by omega), fun jx => if jx = 17 then .pointer (some ⟨W.heap.size, 0, none⟩) else s jx, F8, by first | (simp [frR26]; done) | (simp [frR26]; rfl), by simpa using hsz, ⟨I.v0, I.v1, I.v2, I.v3, I.v5, I.v6, I.v7, I.v8, I.v11, fun h => (I.ma h).ext ((Ext.refl _).alloc _), fun h => (I.mb h).ext ((Ext.refl _).alloc _), I.mv.ext ((Ext.refl _).alloc _), I.c6, I.c7, fun h1 h2 => by obtain ⟨gs, y1, y2, y3⟩ := I.sl h1 h2; exact ⟨gs, y1, y2.ext ((Ext.refl _).alloc _), y3⟩, fun _ => rfl, fun _ _ => ⟨_, rfl, hfz, Blk.new _ _ _, fun hf => by have := hlt8 _ hf; omega⟩, fun h => absurd (show L 10 = true from h) (by rw [n10]; decide)⟩⟩
            · -- operation 10
              simp only [Region.binds, listed_bit hL] at hdep
              have d7 : L 7 = true := by first | simpa [hL] using hdep | (simp [hL, Region.binds] at hdep; simp [hdep])
              have e7 := I.v7 d7
              have d9 : L 9 = true := by first | simpa [hL] using hdep | (simp [hL, Region.binds] at hdep; simp [hdep])
              have d5 := I.c6 (I.c7 d7)
              obtain ⟨g, e9, hg, hB, hnF⟩ := I.za d9 hn0
              obtain ⟨q1, q2, q3⟩ := hB.rules
              refine wpOp_step rfl (fun K' hK => ?_)
              rw [e7, e9]
              have IX := Lib.hid I
              have HB := Lib.hid hB
              have HNF := Lib.hid hnF
              clear I hB hnF
              go_simp
              exact hK _ _ ⟨_, bit_set hL hsz 10 (by omega), s, F8, by first | (simp [frR26, e7, e9]; done) | (simp [frR26, e7, e9]; rfl), by simpa using hsz, ⟨IX.out.v0, IX.out.v1, IX.out.v2, IX.out.v3, IX.out.v5, IX.out.v6, IX.out.v7, IX.out.v8, IX.out.v11, fun h => absurd (show L 5 = false from h) (by rw [d5]; decide), fun h => (IX.out.mb h).far (((Keep.refl (· = g) W).setCell (p := ⟨g, 0, none⟩) rfl _).setCell (p := ⟨g, 1, none⟩) rfl _) (fun j e hf => HNF.out (e ▸ hf)), ⟨(IX.out.mv.keep.setNew (p := ⟨g, 0, none⟩) hg _).setNew (p := ⟨g, 1, none⟩) hg _, IX.out.mv.new⟩, IX.out.c6, IX.out.c7, fun _ h => absurd (show L 5 = false from h) (by rw [d5]; decide), fun _ => d9, fun _ h => absurd h (by simp), fun _ => ⟨g, e9, hg, (HB.out.set 0 _).set 1 _, HNF.out⟩⟩⟩
            · -- operation 11
              simp only [Region.binds, listed_bit hL] at hdep
              have d8 : L 8 = true := by first | simpa [hL] using hdep | (simp [hL, Region.binds] at hdep; simp [hdep])
              have e8 := I.v8 d8
              refine wpOp_step rfl (fun K' hK => ?_)
              rw [e8]
              go_simp
              exact hK _ _ ⟨_, bit_set hL hsz 11 (by omega), fun jx => if jx = 18 then .bool true else s jx, F8, by first | (simp [frR26, e8]; done) | (simp [frR26, e8]; rfl), by simpa using hsz, ⟨I.v0, I.v1, I.v2, I.v3, I.v5, I.v6, I.v7, I.v8, fun _ => rfl, I.ma, I.mb, I.mv, I.c6, I.c7, I.sl, I.k10, I.za, I.zb⟩⟩
          · rintro listed act W1 ⟨L, hL, s, F8, rfl, hsz, I⟩ hr
            have ALL : ∀ i, i < 12 → L i = true := fun i hi => by rw [← hL i]; exact all_listed_m (by kernel_rfl) hsz hr i hi
            have eK := I.v11 (ALL 11 (by omega))
            have mN := I.mb (ALL 5 (by omega))
            have vN := I.mv
            clear I hL ALL hr hsz
            unfold frR26
            dsimp only
            rw [eK, ← HU.out]
            clear HU eK
            simp only [Array.getD_eq_getD_getElem?, List.getElem?_toArray, List.getElem?_cons_succ, List.getElem?_cons_zero, Option.getD_some]
            have nga : ¬ F2 ga := fun hF => by have := LTZ.out _ hF; have := HGA.out; omega
            obtain ⟨bA1, _⟩ := vN.blk BA.out nga
            have vaA1 := VAY.out.keep vN.keep (fun j hj hF => by have := LTZ.out j hF; omega)
            have X1 : Hid (Ext w W1) := Lib.hid (Ext.of_below (Keep.below XY.out.below vN.keep XY.out.below.size (fun i hi h => by have := FL2.out i h; omega)))
            obtain ⟨hp1, hp2, hp3⟩ := HCP.out
            have CA2 : Hid (∀ W [x : IsExt W1 W], Calls Tryz.prog 26 #[.pointer (some ⟨m, 0, none⟩), .int .i64 23] W fun e w' => ∃ va vc, e = .returned (.agg #[.int .i64 8, .int .i64 3, .int .i64 24, .bool false, .slice va ([] : List PV).length vc, .string Bs]) ∧ ValsAt w' (.slice va ([] : List PV).length vc) ([] : List PV) ∧ Ext W w') := Lib.hid (fun W x => by
              have q := mthingB (mN.ext x.out) 23 hp1 hp2
              rw [hp3] at q
              exact q.mono (fun e w' ⟨he, hx⟩ => ⟨none, 0, he, row_nil _ _ _, hx⟩)
              )
            have BA1 := Lib.hid bA1
            have VAH := Lib.hid vaA1.vals
            have HL10 := Lib.hid hl10
            have i1 : IsExt W1 W1 := ⟨Ext.refl _⟩
            obtain ⟨r1, r2, r3⟩ := BA1.out.rules
            have c0 := r1 0
            have c1' := r1 1
            have c2 := r1 2
            have c3 := r1 3
            have c4 := r1 4
            have c5 := r1 5
            simp only [List.getElem?_toArray, List.getElem?_cons_zero, List.getElem?_cons_succ] at c0 c1' c2 c3 c4 c5
            clear nga bA1 vaA1 hp1 hp2 hp3 mN vN BA VAY HCP XY BY MY CO hl10
            go_upto_region 27 with (fail)
            go_region_held3 (fun w' => w'.cell? ⟨ga, 0, none⟩ = some (.int .i64 8) ∧ w'.cell? ⟨ga, 1, none⟩ = some (.int .i64 3) ∧ w'.cell? ⟨ga, 2, none⟩ = some (.int .i64 24) ∧ w'.cell? ⟨ga, 3, none⟩ = some (.bool false) ∧ w'.cell? ⟨ga, 4, none⟩ = some (.slice aA ([] : List PV).length cA) ∧ w'.cell? ⟨ga, 5, none⟩ = some (.string Bs)) (first | go_keep) ((first | (go_at_call 26; refine (CA2.out _).mono ?_; rintro e wp ⟨va, vc, rfl, vp, xp⟩; have ip : IsExt W1 wp := ⟨(is_ext W1 _).trans xp⟩; clear xp; obtain ⟨r1, r2, r3⟩ := (BA1.out.ext ip.out).rules) | (go_at_call 30; refine (same00 _ 8 3 24 false Bs _ _ ([] : List PV) (Row.ext vp (is_ext wp _)) (Row.ext VAH.out (is_ext W1 _)) HL10.out).mono ?_; rintro e wq ⟨rfl, xq⟩; have iq : IsExt W1 wq := ⟨(is_ext W1 _).trans xq⟩; clear xq; obtain ⟨r1, r2, r3⟩ := (BA1.out.ext iq.out).rules) | (go_at_call 28; refine (AW.out _).mono ?_; rintro e wv ⟨rfl, xv⟩; have iv : IsExt W1 wv := ⟨(is_ext W1 _).trans xv⟩; clear xv; obtain ⟨r1, r2, r3⟩ := (BA1.out.ext iv.out).rules)))
            have XE := Lib.hid (X1.out.trans iv.out)
            clear r1 r2 r3 c0 c1' c2 c3 c4 c5
            go_wp2_with fail
            go_ret
            exact ⟨rfl, XE.out.below⟩
theorem thingCopies (a0 : Option Addr) (len0 cap0 : Nat) (z0 : List Int) (a1 : Bool) (w : World) (w0 : IRow .i64 w a0 len0 cap0 z0) :
    Calls Tryz.prog 10 #[.slice a0 len0 cap0, .bool a1] w fun e w' => e = .returned (.bool true) ∧ Below w.heap.size w w' := by
  cases a1
  · exact copies_array a0 len0 cap0 z0 w w0
  · exact copies_text a0 len0 cap0 z0 w w0
end Go.Proofs.YtnhijjcplnomgaaGreat.World
