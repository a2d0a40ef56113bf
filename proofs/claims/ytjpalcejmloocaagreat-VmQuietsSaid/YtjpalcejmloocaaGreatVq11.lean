/-
  HeapOps, HeapByte, as one text (a claim has at most 60 files).
-/
import Derived.Test.YtjpalcejmloocaaGreatVq08
import Derived.Test.YtjpalcejmloocaaGreatVq10
namespace Go.Proofs.YtjpalcejmloocaaGreat.Heap
open Go.RowKit Go.Proofs.YtjpalcejmloocaaGreat.Plain Go.Proofs.YtjpalcejmloocaaGreat.Free
set_option linter.unusedVariables false

section
variable {w : World} {h base : Nat} {S : List Int} {L : List Run} {Bg : List Bool}
theorem has_bd {Bg : List Bool} {at_ : Int} (hb : hasB Bg at_ = true) : 0 < at_ ∧ at_ < Bg.length := by
  unfold hasB at hb
  rw [Bool.and_eq_true] at hb
  exact of_decide_eq_true hb.1
theorem Heap.bd (H : Heap w h base S L Bg) {at_ : Int} (hb : hasB Bg at_ = true) : 0 < at_ ∧ at_ ≤ S.length ∧ S.length ≤ 65536 := by
  obtain ⟨s, sb, f, bb, v, H⟩ := H
  have := has_bd hb
  have := H.len
  have := H.sto.le
  omega
theorem field1 (a b c d : Int) (e f : Bool) (w : World) : (Instr.field 190 (.agg #[.int .i64 a, .int .i64 b, .int .i64 c, .int .i64 d, .bool e, .bool f]) 1).run Tryz.prog w = .ok (.int .i64 b) w := by kernel_rfl
def fmtI (S : List Int) (Bg : List Bool) (at_ : Int) : Int := if hasB Bg at_ then gotF (Store.getL S (at_ - 1)) else 0
set_option maxRecDepth 100000 in
set_option maxHeartbeats 1000000 in
theorem fmt_ (H : Heap w h base S L Bg) (at_ : Int) : Calls Tryz.prog 147 #[.pointer (some ⟨h, 0, none⟩), .int .i64 at_] w fun e w' => e = .returned (.int .i64 (fmtI S Bg at_)) ∧ Ext w w' := by
  have E : Hid (fmtI S Bg at_ = if hasB Bg at_ then gotF (Store.getL S (at_ - 1)) else 0) := rfl
  have hhas := has H at_
  cases hb : hasB Bg at_ with
  | false =>
    rw [hb] at hhas E
    have HH := Lib.hid hhas
    clear hhas hb H
    go_enter Tryz.func147, Tryz.ntmps147
    go_wp2_with fail
    refine HH.out.mono ?_
    rintro e w1 ⟨rfl, rfl⟩
    go_wp2_with fail
    go_ret
    exact ⟨ret_int (by rw [E.out]; rfl), Ext.refl _⟩
  | true =>
    obtain ⟨b1, b2, b3⟩ := H.bd hb
    rw [hb] at hhas E
    have HH := Lib.hid hhas
    have hhead := Lib.hid (head H at_ (by omega) (by omega))
    generalize Store.getL S (at_ - 1) = x at *
    unfold headV at hhead
    generalize gotF x = r at *
    have hfd := field1
    clear hhas hb H
    go_enter Tryz.func147, Tryz.ntmps147
    go_wp2_with fail
    refine HH.out.mono ?_
    rintro e w1 ⟨rfl, rfl⟩
    go_wp2_with fail
    refine hhead.out.mono ?_
    rintro e w2 ⟨rfl, x2⟩
    go_wp2_with fail
    go_ret
    exact ⟨ret_int (by rw [E.out]; rfl), x2⟩
theorem size_ (H : Heap w h base S L Bg) (at_ : Int) : Calls Tryz.prog 148 #[.pointer (some ⟨h, 0, none⟩), .int .i64 at_] w fun e w' => e = .returned (.int .i64 (sizeI S Bg at_)) ∧ Ext w w' := by
  cases hb : hasB Bg at_ with
  | true =>
    obtain ⟨b1, b2, b3⟩ := H.bd hb
    exact size H at_ (by omega) (by omega)
  | false =>
    have E : Hid (sizeI S Bg at_ = -1) := by unfold sizeI; rw [hb]; exact Lib.hid (if_neg (by decide))
    have hhas := has H at_
    rw [hb] at hhas
    have HH := Lib.hid hhas
    clear hhas hb H
    go_enter Tryz.func148, Tryz.ntmps148
    go_wp2_with fail
    refine HH.out.mono ?_
    rintro e w1 ⟨rfl, rfl⟩
    go_wp2_with fail
    go_ret
    exact ⟨ret_int (by rw [E.out]), Ext.refl _⟩
def inB (S : List Int) (Bg : List Bool) (at_ i : Int) (by_ : Bool) : Bool := hasB Bg at_ && ((fmtI S Bg at_ == 3) == by_) && decide (0 ≤ i) && decide (i < sizeI S Bg at_)
set_option maxRecDepth 100000 in
set_option maxHeartbeats 1000000 in
theorem in_ (H : Heap w h base S L Bg) (at_ i : Int) (by_ : Bool) : Calls Tryz.prog 142 #[.pointer (some ⟨h, 0, none⟩), .int .i64 at_, .int .i64 i, .bool by_] w fun e w' => e = .returned (.bool (inB S Bg at_ i by_)) ∧ Ext w w' := by
  have E : Hid (inB S Bg at_ i by_ = (hasB Bg at_ && ((fmtI S Bg at_ == 3) == by_) && decide (0 ≤ i) && decide (i < sizeI S Bg at_))) := rfl
  have hhas := has H at_
  have HF := Lib.hid (fun (w' : World) (x : Ext w w') => fmt_ (H.ext x) at_)
  have HS := Lib.hid (fun (w' : World) (x : Ext w w') => size_ (H.ext x) at_)
  generalize sizeI S Bg at_ = sz at *
  generalize fmtI S Bg at_ = fm at *
  cases hb : hasB Bg at_ with
  | false =>
    rw [hb] at hhas E
    have HH := Lib.hid hhas
    clear hhas hb H
    go_enter Tryz.func142, Tryz.ntmps142
    go_wp2_with fail
    refine HH.out.mono ?_
    rintro e w1 ⟨rfl, rfl⟩
    go_wp2_with fail
    go_ret
    exact ⟨ret_bool (by rw [E.out]; rfl), Ext.refl _⟩
  | true =>
    rw [hb] at hhas E
    have HH := Lib.hid hhas
    clear hhas hb H
    generalize hf3 : (fm == 3) = f3 at E
    cases hq : (f3 == by_) with
    | false =>
      rw [hq] at E
      go_enter Tryz.func142, Tryz.ntmps142
      go_wp2_with fail
      refine HH.out.mono ?_
      rintro e w1 ⟨rfl, rfl⟩
      go_wp2_with fail
      refine (HF.out _ (Ext.refl _)).mono ?_
      rintro e w2 ⟨rfl, x2⟩
      go_wp2_with fail
      go_ret
      exact ⟨ret_bool (by rw [E.out]; rfl), x2⟩
    | true =>
      rw [hq] at E
      by_cases hi : 0 ≤ i
      · have di : decide (0 ≤ i) = true := decide_eq_true hi
        rw [di] at E
        go_enter Tryz.func142, Tryz.ntmps142
        go_wp2_with fail
        refine HH.out.mono ?_
        rintro e w1 ⟨rfl, rfl⟩
        go_wp2_with fail
        refine (HF.out _ (Ext.refl _)).mono ?_
        rintro e w2 ⟨rfl, x2⟩
        go_wp2_with fail
        refine (HS.out _ x2).mono ?_
        rintro e w3 ⟨rfl, x3⟩
        go_wp2_with fail
        go_ret
        exact ⟨ret_bool (by rw [E.out]; rfl), x2.trans x3⟩
      · have di : decide (0 ≤ i) = false := decide_eq_false hi
        rw [di] at E
        go_enter Tryz.func142, Tryz.ntmps142
        go_wp2_with fail
        refine HH.out.mono ?_
        rintro e w1 ⟨rfl, rfl⟩
        go_wp2_with fail
        refine (HF.out _ (Ext.refl _)).mono ?_
        rintro e w2 ⟨rfl, x2⟩
        go_wp2_with fail
        go_ret
        exact ⟨ret_bool (by rw [E.out]; rfl), x2⟩
def Turned (w : World) (h base : Nat) (S : List Int) (L : List Run) (Bg : List Bool) (e : Ending) (w' : World) : Prop := e = .returned (.bool true) ∧ Heap w' h base S L Bg ∧ HKp base w w'
set_option maxRecDepth 100000 in
set_option maxHeartbeats 1000000 in
theorem setfield_yes (H : Heap w h base S L Bg) (at_ i x : Int) (k : Nat) (hk : at_ + 2 + i = k) (hkS : k < S.length) (hx : 0 ≤ x ∧ x < 4294967296) (hin : inB S Bg at_ i false = true) (hi1 : i ≤ 100000) :
    Calls Tryz.prog 124 #[.pointer (some ⟨h, 0, none⟩), .int .i64 at_, .int .i64 i, .int .u32 x] w (Turned w h base (S.set k x) L Bg) := by
  have hi := in_ H at_ i false
  rw [hin] at hi
  have HI := Lib.hid hi
  have hb : hasB Bg at_ = true ∧ 0 ≤ i := by
    unfold inB at hin
    rw [Bool.and_eq_true, Bool.and_eq_true, Bool.and_eq_true] at hin
    exact ⟨hin.1.1.1, of_decide_eq_true hin.1.2⟩
  obtain ⟨hb, hi0⟩ := hb
  obtain ⟨b1, b2, b3⟩ := H.bd hb
  obtain ⟨s, sb, f, bb, v, H⟩ := H
  have HH := Lib.hid H
  have HK := Lib.hid hk
  clear hi hin H hk
  go_enter Tryz.func124, Tryz.ntmps124
  go_wp2_with fail
  refine HI.out.mono ?_
  rintro e w1 ⟨rfl, x1⟩
  obtain ⟨r1, r2, r3⟩ := (HH.out.ext x1).blk.rules
  go_wp2_with fail
  rw [show at_ - 1 + 3 + i = (k : Int) from by have := HK.out; omega]
  refine (Store.put_y (HH.out.ext x1).sto k hkS x).mono ?_
  rintro e w2 ⟨rfl, s2, k2⟩
  obtain ⟨h2, k3⟩ := (HH.out.ext x1).put s2 k2 (List.length_set ..) (wd_set HH.out.wd hx)
  go_wp2_with fail
  go_ret
  exact ⟨rfl, ⟨s, sb, f, bb, v, h2⟩, (HKp.of_ext x1).trans k3⟩
end
end Go.Proofs.YtjpalcejmloocaaGreat.Heap
namespace Go.Proofs.YtjpalcejmloocaaGreat.Heap
open Go.RowKit Go.Proofs.YtjpalcejmloocaaGreat.Plain Go.Proofs.YtjpalcejmloocaaGreat.Free
set_option linter.unusedVariables false

theorem or_mid (y v k : Nat) (hv : v < 256) (hy : y / 2 ^ k % 256 = 0) : y ||| (v * 2 ^ k) = y + v * 2 ^ k := by
  have hp : 0 < 2 ^ k := Nat.pow_pos (by omega)
  have e1 := Nat.or_div_two_pow (a := y) (b := v * 2 ^ k) (n := k)
  have e2 := Nat.or_mod_two_pow (a := y) (b := v * 2 ^ k) (n := k)
  rw [Nat.mul_div_cancel _ hp] at e1
  rw [Nat.mul_mod_left, Nat.or_zero] at e2
  have e3 : y / 2 ^ k ||| v = y / 2 ^ k + v := by
    obtain ⟨m, hm⟩ : ∃ m, y / 2 ^ k = m * 2 ^ 8 := ⟨y / 2 ^ k / 256, by omega⟩
    rw [hm, ← Nat.shiftLeft_eq, ← Nat.shiftLeft_add_eq_or_of_lt (by omega)]
  rw [e3] at e1
  have d1 := Nat.div_add_mod (y ||| v * 2 ^ k) (2 ^ k)
  have d2 := Nat.div_add_mod y (2 ^ k)
  rw [e1, e2, Nat.mul_add] at d1
  rw [Nat.mul_comm (2 ^ k) v] at d1
  omega
/-- the word with its byte j turned -/
def setV (x : Int) (j : Nat) (u : Int) : Int := x - x / 256 ^ j % 256 * 256 ^ j + u % 256 * 256 ^ j
theorem u32_or_mid (y v : Int) (k : Nat) (h0 : 0 ≤ y) (h1 : y < 4294967296) (v0 : 0 ≤ v) (v1 : v < 256) (hy : y / ((2 ^ k : Nat) : Int) % 256 = 0) (hk : v * ((2 ^ k : Nat) : Int) < 4294967296) : bits .or .u32 y (v * ((2 ^ k : Nat) : Int)) = y + v * ((2 ^ k : Nat) : Int) := by
  obtain ⟨n, rfl⟩ := Int.eq_ofNat_of_zero_le h0
  obtain ⟨m, rfl⟩ := Int.eq_ofNat_of_zero_le v0
  have hm : m * 2 ^ k < 4294967296 := by
    have h : ((m * 2 ^ k : Nat) : Int) < 4294967296 := by rw [Int.natCast_mul]; exact hk
    omega
  rw [← Int.natCast_mul, u32_or_nat n _ (by omega) hm, or_mid n m k (by omega) (by rw [← Int.natCast_ediv] at hy; omega)]
  omega
theorem setV_of (x u : Int) (j : Nat) (hj : j < 4) (h0 : 0 ≤ x) (h1 : x < 4294967296) :
    bits .or .u32 (bits .andNot .u32 x (IntKind.u32.wrap (255 * 2 ^ (8 * (j : Int)).toNat))) (IntKind.u32.wrap (IntKind.u32.wrap (bits .and .i64 u 255) * 2 ^ (8 * (j : Int)).toNat)) = setV x j u := by
  have ea : bits .and .i64 u 255 = u % 256 := i64_and_mask u 8 (by omega) 255 rfl
  have ew : IntKind.u32.wrap (u % 256) = u % 256 := IntWalk.u32_in _ (by omega)
  rw [ea, ew]
  unfold setV
  rcases (by omega : j = 0 ∨ j = 1 ∨ j = 2 ∨ j = 3) with rfl | rfl | rfl | rfl
  · have e := u32_andNot_field x 0 8 255 rfl (by decide) h0 h1
    rw [show (255 : Int) * 2 ^ (8 * ((0 : Nat) : Int)).toNat = 255 from rfl, IntWalk.u32_in 255 (by decide), e, IntWalk.u32_in _ (by show 0 ≤ u % 256 * 1 ∧ u % 256 * 1 ≤ _; omega)]
    exact u32_or_mid (x - x / 1 % 256 * 1) (u % 256) 0 (by omega) (by omega) (by omega) (by omega) (by show (x - x / 1 % 256 * 1) / 1 % 256 = 0; omega) (by show u % 256 * 1 < _; omega)
  · have e := u32_andNot_field x 8 8 65280 rfl (by decide) h0 h1
    rw [show (255 : Int) * 2 ^ (8 * ((1 : Nat) : Int)).toNat = 65280 from rfl, IntWalk.u32_in 65280 (by decide), e, IntWalk.u32_in _ (by show 0 ≤ u % 256 * 256 ∧ u % 256 * 256 ≤ _; omega)]
    exact u32_or_mid (x - x / 256 % 256 * 256) (u % 256) 8 (by omega) (by omega) (by omega) (by omega) (by show (x - x / 256 % 256 * 256) / 256 % 256 = 0; omega) (by show u % 256 * 256 < _; omega)
  · have e := u32_andNot_field x 16 8 16711680 rfl (by decide) h0 h1
    rw [show (255 : Int) * 2 ^ (8 * ((2 : Nat) : Int)).toNat = 16711680 from rfl, IntWalk.u32_in 16711680 (by decide), e, IntWalk.u32_in _ (by show 0 ≤ u % 256 * 65536 ∧ u % 256 * 65536 ≤ _; omega)]
    exact u32_or_mid (x - x / 65536 % 256 * 65536) (u % 256) 16 (by omega) (by omega) (by omega) (by omega) (by show (x - x / 65536 % 256 * 65536) / 65536 % 256 = 0; omega) (by show u % 256 * 65536 < _; omega)
  · have e := u32_andNot_field x 24 8 4278190080 rfl (by decide) h0 h1
    rw [show (255 : Int) * 2 ^ (8 * ((3 : Nat) : Int)).toNat = 4278190080 from rfl, IntWalk.u32_in 4278190080 (by decide), e, IntWalk.u32_in _ (by show 0 ≤ u % 256 * 16777216 ∧ u % 256 * 16777216 ≤ _; omega)]
    exact u32_or_mid (x - x / 16777216 % 256 * 16777216) (u % 256) 24 (by omega) (by omega) (by omega) (by omega) (by show (x - x / 16777216 % 256 * 16777216) / 16777216 % 256 = 0; omega) (by show u % 256 * 16777216 < _; omega)
theorem setV_bd (x u : Int) (j : Nat) (hj : j < 4) (h0 : 0 ≤ x) (h1 : x < 4294967296) : 0 ≤ setV x j u ∧ setV x j u < 4294967296 := by
  unfold setV
  rcases (by omega : j = 0 ∨ j = 1 ∨ j = 2 ∨ j = 3) with rfl | rfl | rfl | rfl
  · show 0 ≤ x - x / 1 % 256 * 1 + u % 256 * 1 ∧ x - x / 1 % 256 * 1 + u % 256 * 1 < 4294967296; omega
  · show 0 ≤ x - x / 256 % 256 * 256 + u % 256 * 256 ∧ x - x / 256 % 256 * 256 + u % 256 * 256 < 4294967296; omega
  · show 0 ≤ x - x / 65536 % 256 * 65536 + u % 256 * 65536 ∧ x - x / 65536 % 256 * 65536 + u % 256 * 65536 < 4294967296; omega
  · show 0 ≤ x - x / 16777216 % 256 * 16777216 + u % 256 * 16777216 ∧ x - x / 16777216 % 256 * 16777216 + u % 256 * 16777216 < 4294967296; omega
section
variable {w : World} {h base : Nat} {S : List Int} {L : List Run} {Bg : List Bool}
theorem in_true {at_ i : Int} {b : Bool} (hin : inB S Bg at_ i b = true) : hasB Bg at_ = true ∧ 0 ≤ i ∧ i < sizeI S Bg at_ := by
  unfold inB at hin
  rw [Bool.and_eq_true, Bool.and_eq_true, Bool.and_eq_true] at hin
  exact ⟨hin.1.1.1, of_decide_eq_true hin.1.2, of_decide_eq_true hin.2⟩
set_option maxRecDepth 100000 in
set_option maxHeartbeats 1000000 in
theorem setbyte_yes (H : Heap w h base S L Bg) (at_ : Int) (i : Nat) (u : Int) (k : Nat) (hk : at_ + 2 + (i : Int) / 4 = (k : Int)) (hkS : k < S.length) (hin : inB S Bg at_ i true = true) (hi1 : i ≤ 100000) (u1 : -9223372036854775808 ≤ u) (u2 : u ≤ 9223372036854775807) :
    Calls Tryz.prog 126 #[.pointer (some ⟨h, 0, none⟩), .int .i64 at_, .int .i64 i, .int .i64 u] w (Turned w h base (S.set k (setV (Store.getL S k) (i % 4) u)) L Bg) := by
  have hi := in_ H at_ i true
  rw [hin] at hi
  have HI := Lib.hid hi
  obtain ⟨hb, hi0, _⟩ := in_true hin
  obtain ⟨b1, b2, b3⟩ := H.bd hb
  obtain ⟨s, sb, f, bb, v, H⟩ := H
  obtain ⟨g1, g2⟩ := getL_bd H.wd (k : Int)
  have SV := setV_of (Store.getL S k) u (i % 4) (by omega) g1 g2
  rw [Int.natCast_emod] at SV
  have SV2 := Lib.hid SV
  have SB := Lib.hid (setV_bd (Store.getL S k) u (i % 4) (by omega) g1 g2)
  have HH := Lib.hid H
  have HK := Lib.hid hk
  clear hi hin H hk SV
  go_enter Tryz.func126, Tryz.ntmps126
  go_wp2_with fail
  refine HI.out.mono ?_
  rintro e w1 ⟨rfl, x1⟩
  obtain ⟨r1, r2, r3⟩ := (HH.out.ext x1).blk.rules
  go_wp2_with fail
  rw [show at_ - 1 + 3 + (i : Int) / 4 = (k : Int) from by have := HK.out; omega]
  go_region_held3 (fun w' => w'.cell? ⟨h, 0, none⟩ = some (.pointer (some ⟨s, 0, none⟩))) (first | exact ((HH.out.ext x1).ext ((Ext.refl _).drew)).blk.cell 0 | exact c5 | exact (HH.out.ext x1).blk.cell 0)
    (first
      | (go_at_call 143; refine (Store.get_sto (b := sb) (L := S) ?_ _).mono ?_; exact ((HH.out.ext x1).ext ((Ext.refl _).drew)).sto; rintro e w2 ⟨rfl, rfl⟩)
      | (go_at_call 137; refine (Store.put_y (((HH.out.ext x1).ext ((Ext.refl _).drew)).sto) k hkS _).mono ?_; rintro e w5 ⟨rfl, s5, k5⟩; have c5 := (((HH.out.ext x1).ext ((Ext.refl _).drew)).blk.keep k5 (((HH.out.ext x1).ext ((Ext.refl _).drew)).blk.ne ((HH.out.ext x1).ext ((Ext.refl _).drew)).sto.row (by decide))).cell 0))
  have e4 : ((i : Int) % ((4 : Nat) : Int)) = (i : Int) % 4 := rfl
  have SV3 := SV2.out
  rw [e4] at SV3
  rw [SV3] at s5
  obtain ⟨h2, k3⟩ := ((HH.out.ext x1).ext ((Ext.refl _).drew)).put s5 k5 (List.length_set ..) (wd_set HH.out.wd SB.out)
  have H2 := Lib.hid h2
  have K3 := Lib.hid ((HKp.of_ext (x1.trans (Ext.refl _).drew)).trans k3)
  clear SV3 e4 s5 k5 h2 k3 SV2 SB
  go_wp2_with fail
  go_ret
  exact ⟨rfl, ⟨s, sb, f, bb, v, H2.out⟩, K3.out⟩
end
end Go.Proofs.YtjpalcejmloocaaGreat.Heap
