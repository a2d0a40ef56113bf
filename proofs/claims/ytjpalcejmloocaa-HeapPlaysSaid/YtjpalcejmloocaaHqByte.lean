/-
  Contracts of package heap (chapter 5): Byte, SetByte.
-/
import Derived.Test.YtjpalcejmloocaaHqOps
namespace Go.Proofs.Ytjpalcejmloocaa.Heap
open Go.RowKit Go.Proofs.Ytjpalcejmloocaa.Plain Go.Proofs.Ytjpalcejmloocaa.Free
set_option linter.unusedVariables false

theorem byte_val (x : Int) (j : Nat) (h0 : 0 ≤ x) (h1 : x < 4294967296) : wrap64 (bits .and .u32 (x / 2 ^ (8 * j)) 255) = x / 256 ^ j % 256 := by
  have e : (2 : Int) ^ (8 * j) = 256 ^ j := by rw [Int.pow_mul]; rfl
  have hp : (0 : Int) < 256 ^ j := Int.pow_pos (by decide)
  have b0 : 0 ≤ x / 256 ^ j := Int.ediv_nonneg h0 (Int.le_of_lt hp)
  have b1 : x / 256 ^ j ≤ x := Int.ediv_le_self _ h0
  rw [e, u32_and_mask _ 8 (by omega) b0 (by omega) 255 rfl]
  unfold wrap64
  omega
theorem or_mid (y v k : Nat) (hv : v < 256) (hy : y / 2 ^ k % 256 = 0) : y ||| (v * 2 ^ k) = y + v * 2 ^ k := by
  have hp : 0 < 2 ^ k := Nat.pow_pos (by omega)
  have e1 := Nat.or_div_two_pow (a := y) (b := v * 2 ^ k) (n := k)
  have e2 := Nat.or_mod_two_pow (a := y) (b := v * 2 ^ k) (n := k)
  rw [Nat.mul_div_cancel _ hp] at e1
  rw [Nat.mul_mod_left, Nat.or_zero] at e2
  have e3 : y / 2 ^ k ||| v = y / 2 ^ k + v := by
    obtain ⟨m, hm⟩ : ∃ m, y / 2 ^ k = m * 2 ^ 8 := ⟨y / 2 ^ k / 256, by omega⟩
    rw [hm, ← Nat.shiftLeft_eq, ← Nat.shiftLeft_add_eq_or_of_lt (by omega)]
  rw [e3] at e1
  have d1 := Nat.div_add_mod (y ||| v * 2 ^ k) (2 ^ k)
  have d2 := Nat.div_add_mod y (2 ^ k)
  rw [e1, e2, Nat.mul_add] at d1
  rw [Nat.mul_comm (2 ^ k) v] at d1
  omega
/-- the word with its byte j turned -/
def setV (x : Int) (j : Nat) (u : Int) : Int := x - x / 256 ^ j % 256 * 256 ^ j + u % 256 * 256 ^ j
theorem u32_or_mid (y v : Int) (k : Nat) (h0 : 0 ≤ y) (h1 : y < 4294967296) (v0 : 0 ≤ v) (v1 : v < 256) (hy : y / ((2 ^ k : Nat) : Int) % 256 = 0) (hk : v * ((2 ^ k : Nat) : Int) < 4294967296) : bits .or .u32 y (v * ((2 ^ k : Nat) : Int)) = y + v * ((2 ^ k : Nat) : Int) := by
  obtain ⟨n, rfl⟩ := Int.eq_ofNat_of_zero_le h0
  obtain ⟨m, rfl⟩ := Int.eq_ofNat_of_zero_le v0
  have hm : m * 2 ^ k < 4294967296 := by
    have h : ((m * 2 ^ k : Nat) : Int) < 4294967296 := by rw [Int.natCast_mul]; exact hk
    omega
  rw [← Int.natCast_mul, u32_or_nat n _ (by omega) hm, or_mid n m k (by omega) (by rw [← Int.natCast_ediv] at hy; omega)]
  omega
theorem setV_of (x u : Int) (j : Nat) (hj : j < 4) (h0 : 0 ≤ x) (h1 : x < 4294967296) :
    bits .or .u32 (bits .andNot .u32 x (IntKind.u32.wrap (255 * 2 ^ (8 * (j : Int)).toNat))) (IntKind.u32.wrap (IntKind.u32.wrap (bits .and .i64 u 255) * 2 ^ (8 * (j : Int)).toNat)) = setV x j u := by
  have ea : bits .and .i64 u 255 = u % 256 := i64_and_mask u 8 (by omega) 255 rfl
  have ew : IntKind.u32.wrap (u % 256) = u % 256 := IntWalk.u32_in _ (by omega)
  rw [ea, ew]
  unfold setV
  rcases (by omega : j = 0 ∨ j = 1 ∨ j = 2 ∨ j = 3) with rfl | rfl | rfl | rfl
  · have e := u32_andNot_field x 0 8 255 rfl (by decide) h0 h1
    rw [show (255 : Int) * 2 ^ (8 * ((0 : Nat) : Int)).toNat = 255 from rfl, IntWalk.u32_in 255 (by decide), e, IntWalk.u32_in _ (by show 0 ≤ u % 256 * 1 ∧ u % 256 * 1 ≤ _; omega)]
    exact u32_or_mid (x - x / 1 % 256 * 1) (u % 256) 0 (by omega) (by omega) (by omega) (by omega) (by show (x - x / 1 % 256 * 1) / 1 % 256 = 0; omega) (by show u % 256 * 1 < _; omega)
  · have e := u32_andNot_field x 8 8 65280 rfl (by decide) h0 h1
    rw [show (255 : Int) * 2 ^ (8 * ((1 : Nat) : Int)).toNat = 65280 from rfl, IntWalk.u32_in 65280 (by decide), e, IntWalk.u32_in _ (by show 0 ≤ u % 256 * 256 ∧ u % 256 * 256 ≤ _; omega)]
    exact u32_or_mid (x - x / 256 % 256 * 256) (u % 256) 8 (by omega) (by omega) (by omega) (by omega) (by show (x - x / 256 % 256 * 256) / 256 % 256 = 0; omega) (by show u % 256 * 256 < _; omega)
  · have e := u32_andNot_field x 16 8 16711680 rfl (by decide) h0 h1
    rw [show (255 : Int) * 2 ^ (8 * ((2 : Nat) : Int)).toNat = 16711680 from rfl, IntWalk.u32_in 16711680 (by decide), e, IntWalk.u32_in _ (by show 0 ≤ u % 256 * 65536 ∧ u % 256 * 65536 ≤ _; omega)]
    exact u32_or_mid (x - x / 65536 % 256 * 65536) (u % 256) 16 (by omega) (by omega) (by omega) (by omega) (by show (x - x / 65536 % 256 * 65536) / 65536 % 256 = 0; omega) (by show u % 256 * 65536 < _; omega)
  · have e := u32_andNot_field x 24 8 4278190080 rfl (by decide) h0 h1
    rw [show (255 : Int) * 2 ^ (8 * ((3 : Nat) : Int)).toNat = 4278190080 from rfl, IntWalk.u32_in 4278190080 (by decide), e, IntWalk.u32_in _ (by show 0 ≤ u % 256 * 16777216 ∧ u % 256 * 16777216 ≤ _; omega)]
    exact u32_or_mid (x - x / 16777216 % 256 * 16777216) (u % 256) 24 (by omega) (by omega) (by omega) (by omega) (by show (x - x / 16777216 % 256 * 16777216) / 16777216 % 256 = 0; omega) (by show u % 256 * 16777216 < _; omega)
theorem setV_bd (x u : Int) (j : Nat) (hj : j < 4) (h0 : 0 ≤ x) (h1 : x < 4294967296) : 0 ≤ setV x j u ∧ setV x j u < 4294967296 := by
  unfold setV
  rcases (by omega : j = 0 ∨ j = 1 ∨ j = 2 ∨ j = 3) with rfl | rfl | rfl | rfl
  · show 0 ≤ x - x / 1 % 256 * 1 + u % 256 * 1 ∧ x - x / 1 % 256 * 1 + u % 256 * 1 < 4294967296; omega
  · show 0 ≤ x - x / 256 % 256 * 256 + u % 256 * 256 ∧ x - x / 256 % 256 * 256 + u % 256 * 256 < 4294967296; omega
  · show 0 ≤ x - x / 65536 % 256 * 65536 + u % 256 * 65536 ∧ x - x / 65536 % 256 * 65536 + u % 256 * 65536 < 4294967296; omega
  · show 0 ≤ x - x / 16777216 % 256 * 16777216 + u % 256 * 16777216 ∧ x - x / 16777216 % 256 * 16777216 + u % 256 * 16777216 < 4294967296; omega
/-- a byte of a turned word -/
theorem setV_get (x u : Int) (j t : Nat) (hj : j < 4) (ht : t < 4) (h0 : 0 ≤ x) (h1 : x < 4294967296) : setV x j u / 256 ^ t % 256 = if t = j then u % 256 else x / 256 ^ t % 256 := by
  unfold setV
  rcases (by omega : j = 0 ∨ j = 1 ∨ j = 2 ∨ j = 3) with rfl | rfl | rfl | rfl <;> rcases (by omega : t = 0 ∨ t = 1 ∨ t = 2 ∨ t = 3) with rfl | rfl | rfl | rfl <;> simp <;> omega
section
variable {w : World} {h base : Nat} {o : O3} {S : List Int} {L : List Run} {Bg : List Bool}
set_option maxRecDepth 100000 in
set_option maxHeartbeats 1000000 in
theorem byte_no (H : Heap w h base o S L Bg) (at_ i : Int) (hin : inB S Bg at_ i true = false) : Calls Try.prog 44 #[.pointer (some ⟨h, 0, none⟩), .int .i64 at_, .int .i64 i] w fun e w' => e = .returned (.int .i64 (-1)) ∧ Ext w w' := by
  have hi := in_ H at_ i true
  rw [hin] at hi
  have HI := Lib.hid hi
  clear hi hin H
  go_enter Try.func44, Try.ntmps44
  go_wp2_with fail
  refine HI.out.mono ?_
  rintro e w1 ⟨rfl, x1⟩
  go_wp2_with fail
  go_ret
  exact ⟨rfl, x1⟩
theorem in_true {at_ i : Int} {b : Bool} (hin : inB S Bg at_ i b = true) : hasB Bg at_ = true ∧ 0 ≤ i ∧ i < sizeI S Bg at_ := by
  unfold inB at hin
  rw [Bool.and_eq_true, Bool.and_eq_true, Bool.and_eq_true] at hin
  exact ⟨hin.1.1.1, of_decide_eq_true hin.1.2, of_decide_eq_true hin.2⟩
set_option maxRecDepth 100000 in
set_option maxHeartbeats 1000000 in
theorem byte_yes (H : Heap w h base o S L Bg) (at_ : Int) (i : Nat) (hin : inB S Bg at_ i true = true) (hi1 : i ≤ 100000) : Calls Try.prog 44 #[.pointer (some ⟨h, 0, none⟩), .int .i64 at_, .int .i64 i] w fun e w' => e = .returned (.int .i64 (Store.getL S (at_ + 2 + (i : Int) / 4) / 256 ^ (i % 4) % 256)) ∧ Ext w w' := by
  have hi := in_ H at_ i true
  rw [hin] at hi
  have HI := Lib.hid hi
  obtain ⟨hb, hi0, _⟩ := in_true hin
  obtain ⟨b1, b2, b3⟩ := H.bd hb
  obtain ⟨s, sb, f, bb, v, rfl, H⟩ := H
  obtain ⟨g1, g2⟩ := getL_bd H.wd (at_ + 2 + (i : Int) / 4)
  have HG := Lib.hid H.sto
  have HB := Lib.hid H.blk
  clear hi hin H
  go_enter Try.func44, Try.ntmps44
  go_wp2_with fail
  refine HI.out.mono ?_
  rintro e w1 ⟨rfl, x1⟩
  obtain ⟨r1, r2, r3⟩ := (HB.out.ext x1).rules
  go_wp2_with fail
  rw [show at_ - 1 + 3 + (i : Int) / 4 = at_ + 2 + (i : Int) / 4 from by omega]
  refine (Store.get_sto (HG.out.ext x1) _).mono ?_
  rintro e w2 ⟨rfl, rfl⟩
  go_wp2_with fail
  go_ret
  exact ⟨ret_int (byte_val _ _ g1 g2), x1⟩
set_option maxRecDepth 100000 in
set_option maxHeartbeats 1000000 in
theorem setbyte_no (H : Heap w h base o S L Bg) (at_ i v : Int) (hin : inB S Bg at_ i true = false) : Calls Try.prog 15 #[.pointer (some ⟨h, 0, none⟩), .int .i64 at_, .int .i64 i, .int .i64 v] w fun e w' => e = .returned (.bool false) ∧ Ext w w' := by
  have hi := in_ H at_ i true
  rw [hin] at hi
  have HI := Lib.hid hi
  clear hi hin H
  go_enter Try.func15, Try.ntmps15
  go_wp2_with fail
  refine HI.out.mono ?_
  rintro e w1 ⟨rfl, x1⟩
  go_wp2_with fail
  go_ret
  exact ⟨rfl, x1⟩
set_option maxRecDepth 100000 in
set_option maxHeartbeats 1000000 in
theorem setbyte_yes (H : Heap w h base o S L Bg) (at_ : Int) (i : Nat) (u : Int) (k : Nat) (hk : at_ + 2 + (i : Int) / 4 = (k : Int)) (hkS : k < S.length) (hin : inB S Bg at_ i true = true) (hi1 : i ≤ 100000) (u1 : -9223372036854775808 ≤ u) (u2 : u ≤ 9223372036854775807) :
    Calls Try.prog 15 #[.pointer (some ⟨h, 0, none⟩), .int .i64 at_, .int .i64 i, .int .i64 u] w (Turned w h base o (S.set k (setV (Store.getL S k) (i % 4) u)) L Bg) := by
  have hi := in_ H at_ i true
  rw [hin] at hi
  have HI := Lib.hid hi
  obtain ⟨hb, hi0, _⟩ := in_true hin
  obtain ⟨b1, b2, b3⟩ := H.bd hb
  obtain ⟨s, sb, f, bb, v, rfl, H⟩ := H
  obtain ⟨g1, g2⟩ := getL_bd H.wd (k : Int)
  have SV := setV_of (Store.getL S k) u (i % 4) (by omega) g1 g2
  rw [Int.natCast_emod] at SV
  have SV2 := Lib.hid SV
  have SB := Lib.hid (setV_bd (Store.getL S k) u (i % 4) (by omega) g1 g2)
  have HH := Lib.hid H
  have HK := Lib.hid hk
  clear hi hin H hk SV
  go_enter Try.func15, Try.ntmps15
  go_wp2_with fail
  refine HI.out.mono ?_
  rintro e w1 ⟨rfl, x1⟩
  obtain ⟨r1, r2, r3⟩ := (HH.out.ext x1).blk.rules
  go_wp2_with fail
  rw [show at_ - 1 + 3 + (i : Int) / 4 = (k : Int) from by have := HK.out; omega]
  go_region_held3 (fun w' => w'.cell? ⟨h, 0, none⟩ = some (.pointer (some ⟨s, 0, none⟩))) (first | exact ((HH.out.ext x1).ext ((Ext.refl _).drew)).blk.cell 0 | exact c5 | exact (HH.out.ext x1).blk.cell 0)
    (first
      | (go_at_call 53; refine (Store.get_sto (b := sb) (L := S) ?_ _).mono ?_; exact ((HH.out.ext x1).ext ((Ext.refl _).drew)).sto; rintro e w2 ⟨rfl, rfl⟩)
      | (go_at_call 29; refine (Store.put_y (((HH.out.ext x1).ext ((Ext.refl _).drew)).sto) k hkS _).mono ?_; rintro e w5 ⟨rfl, s5, k5⟩; have c5 := (((HH.out.ext x1).ext ((Ext.refl _).drew)).blk.keep k5 (((HH.out.ext x1).ext ((Ext.refl _).drew)).blk.ne ((HH.out.ext x1).ext ((Ext.refl _).drew)).sto.row (by decide))).cell 0))
  have e4 : ((i : Int) % ((4 : Nat) : Int)) = (i : Int) % 4 := rfl
  have SV3 := SV2.out
  rw [e4] at SV3
  rw [SV3] at s5
  obtain ⟨h2, k3⟩ := ((HH.out.ext x1).ext ((Ext.refl _).drew)).put s5 k5 (List.length_set ..) (wd_set HH.out.wd SB.out)
  have H2 := Lib.hid h2
  have K3 := Lib.hid ((HKp.of_ext (x1.trans (Ext.refl _).drew)).trans k3)
  clear SV3 e4 s5 k5 h2 k3 SV2 SB
  go_wp2_with fail
  go_ret
  exact ⟨rfl, ⟨s, sb, f, bb, v, rfl, H2.out⟩, K3.out⟩
end
end Go.Proofs.Ytjpalcejmloocaa.Heap
