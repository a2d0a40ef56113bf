/-
  Plain facts of chapter 2: a head's fields as quotients and remainders of its word.
-/
import Derived.Test.YtjpalcejmloocaaPlain
namespace Go.Proofs.Ytjpalcejmloocaa.Plain
open Go.RowKit

theorem i64_and_mask (x : Int) (k : Nat) (hk : k ≤ 32) (m : Int) (hm : m = ((2 ^ k - 1 : Nat) : Int)) : bits .and .i64 x m = x % ((2 ^ k : Nat) : Int) := by
  subst hm
  have hp : 2 ^ k ≤ 2 ^ 32 := Nat.pow_le_pow_right (by omega) hk
  have hp0 : 0 < 2 ^ k := Nat.pow_pos (by omega)
  have hd : 2 ^ k ∣ 2 ^ 64 := Nat.pow_dvd_pow 2 (by omega)
  show IntKind.i64.wrap ((BitVec.ofInt 64 x &&& BitVec.ofInt 64 ((2 ^ k - 1 : Nat) : Int)).toNat : Int) = _
  have h1 : (BitVec.ofInt 64 ((2 ^ k - 1 : Nat) : Int)).toNat = 2 ^ k - 1 := by
    rw [BitVec.ofInt_natCast, BitVec.toNat_ofNat]; exact Nat.mod_eq_of_lt (by omega)
  have h2 : ((BitVec.ofInt 64 x).toNat : Int) = x % ((2 ^ 64 : Nat) : Int) := by
    rw [BitVec.toNat_ofInt]
    exact Int.toNat_of_nonneg (Int.emod_nonneg _ (by decide))
  rw [BitVec.toNat_and, h1, Nat.and_two_pow_sub_one_eq_mod]
  have h3 : ((BitVec.ofInt 64 x).toNat % 2 ^ k : Nat) < 2 ^ k := Nat.mod_lt _ hp0
  have h4 : (((BitVec.ofInt 64 x).toNat % 2 ^ k : Nat) : Int) = x % ((2 ^ k : Nat) : Int) := by
    rw [Int.natCast_emod, h2]
    exact Int.emod_emod_of_dvd x (Int.natCast_dvd_natCast.2 hd)
  rw [IntKind.wrap_i64, ← h4]
  omega
theorem i64_and3 (x : Int) : bits .and .i64 x 3 = x % 4 := i64_and_mask x 2 (by omega) 3 rfl
theorem i64_and16 (x : Int) : bits .and .i64 x 65535 = x % 65536 := i64_and_mask x 16 (by omega) 65535 rfl

def bitN (b : Bool) : Int := if b then 1 else 0
theorem bitN_bd (b : Bool) : 0 ≤ bitN b ∧ bitN b < 2 := by cases b <;> decide
def putN (s f o c : Int) (fi li : Bool) : Int := s % 65536 + f % 4 * 65536 + o % 4 * 262144 + c % 4 * 1048576 + bitN fi * 4194304 + bitN li * 8388608
theorem putN_bd (s f o c : Int) (fi li : Bool) : 0 ≤ putN s f o c fi li ∧ putN s f o c fi li < 16777216 := by
  have h1 := bitN_bd fi; have h2 := bitN_bd li
  unfold putN; omega

theorem or_chain (S F O C I L : Int) (s0 : 0 ≤ S) (s1 : S < 65536) (f0 : 0 ≤ F) (f1 : F < 4) (o0 : 0 ≤ O) (o1 : O < 4) (c0 : 0 ≤ C) (c1 : C < 4) (i0 : 0 ≤ I) (i1 : I < 2) (l0 : 0 ≤ L) (l1 : L < 2) :
    bits .or .u32 (bits .or .u32 (bits .or .u32 (bits .or .u32 (bits .or .u32 S (F * 65536)) (O * 262144)) (C * 1048576)) (I * 4194304)) (L * 8388608) = S + F * 65536 + O * 262144 + C * 1048576 + I * 4194304 + L * 8388608 := by
  have e1 : bits .or .u32 S (F * 65536) = S + F * 65536 := u32_or_sum S F 16 (by omega) (by omega) (by omega) (by omega) (by omega)
  have e2 : bits .or .u32 (S + F * 65536) (O * 262144) = S + F * 65536 + O * 262144 := u32_or_sum _ O 18 (by omega) (by omega) (by omega) (by omega) (by omega)
  have e3 : bits .or .u32 (S + F * 65536 + O * 262144) (C * 1048576) = S + F * 65536 + O * 262144 + C * 1048576 := u32_or_sum _ C 20 (by omega) (by omega) (by omega) (by omega) (by omega)
  have e4 : bits .or .u32 (S + F * 65536 + O * 262144 + C * 1048576) (I * 4194304) = S + F * 65536 + O * 262144 + C * 1048576 + I * 4194304 := u32_or_sum _ I 22 (by omega) (by omega) (by omega) (by omega) (by omega)
  have e5 : bits .or .u32 (S + F * 65536 + O * 262144 + C * 1048576 + I * 4194304) (L * 8388608) = S + F * 65536 + O * 262144 + C * 1048576 + I * 4194304 + L * 8388608 := u32_or_sum _ L 23 (by omega) (by omega) (by omega) (by omega) (by omega)
  rw [e1, e2, e3, e4, e5]

theorem put_value (s f o c : Int) (fi li : Bool) :
    bits .or .u32 (bits .or .u32 (bits .or .u32 (bits .or .u32 (bits .or .u32 (bits .and .i64 s 65535 % 4294967296) (bits .and .i64 f 3 % 4294967296 * 65536 % 4294967296)) (bits .and .i64 o 3 % 4294967296 * 262144 % 4294967296)) (bits .and .i64 c 3 % 4294967296 * 1048576 % 4294967296)) (bitN fi * 4194304)) (bitN li * 8388608) = putN s f o c fi li := by
  have h1 := bitN_bd fi; have h2 := bitN_bd li
  rw [i64_and16, i64_and3, i64_and3, i64_and3]
  rw [show s % 65536 % 4294967296 = s % 65536 from by omega, show f % 4 % 4294967296 * 65536 % 4294967296 = f % 4 * 65536 from by omega, show o % 4 % 4294967296 * 262144 % 4294967296 = o % 4 * 262144 from by omega, show c % 4 % 4294967296 * 1048576 % 4294967296 = c % 4 * 1048576 from by omega]
  exact or_chain _ _ _ _ _ _ (by omega) (by omega) (by omega) (by omega) (by omega) (by omega) (by omega) (by omega) (by omega) (by omega) (by omega) (by omega)
theorem rput_value (s f o c : Int) (fi li : Bool) :
    bits .or .u32 (bits .or .u32 (bits .or .u32 (bits .or .u32 (bits .or .u32 (bits .and .u32 (s % 4294967296) 65535) (bits .and .u32 (f % 4294967296) 3 * 65536 % 4294967296)) (bits .and .u32 (o % 4294967296) 3 * 262144 % 4294967296)) (bits .and .u32 (c % 4294967296) 3 * 1048576 % 4294967296)) (bitN fi * 4194304 % 4294967296)) (bitN li * 8388608 % 4294967296) = putN s f o c fi li := by
  have h1 := bitN_bd fi; have h2 := bitN_bd li
  rw [u32_and16 _ (by omega) (by omega), u32_and3 _ (by omega) (by omega), u32_and3 _ (by omega) (by omega), u32_and3 _ (by omega) (by omega)]
  rw [show s % 4294967296 % 65536 = s % 65536 from by omega, show f % 4294967296 % 4 * 65536 % 4294967296 = f % 4 * 65536 from by omega, show o % 4294967296 % 4 * 262144 % 4294967296 = o % 4 * 262144 from by omega, show c % 4294967296 % 4 * 1048576 % 4294967296 = c % 4 * 1048576 from by omega, show bitN fi * 4194304 % 4294967296 = bitN fi * 4194304 from by omega, show bitN li * 8388608 % 4294967296 = bitN li * 8388608 from by omega]
  exact or_chain _ _ _ _ _ _ (by omega) (by omega) (by omega) (by omega) (by omega) (by omega) (by omega) (by omega) (by omega) (by omega) (by omega) (by omega)

/-- what a word says -/
def gotS (v : Int) : Int := v % 65536
def gotF (v : Int) : Int := v / 65536 % 4
def gotO (v : Int) : Int := v / 262144 % 4
def gotC (v : Int) : Int := v / 1048576 % 4
def gotI (v : Int) : Bool := decide (v / 4194304 % 2 = 1)
def gotL (v : Int) : Bool := decide (v / 8388608 % 2 = 1)
section
variable (v : Int) (h0 : 0 ≤ v) (h1 : v < 4294967296)
include h0 h1
theorem get_s : wrap64 (bits .and .u32 v 65535) = gotS v := by rw [u32_and16 v h0 h1]; unfold wrap64 gotS; omega
theorem get_f : wrap64 (bits .and .u32 (v / 65536) 3) = gotF v := by rw [u32_and3 _ (by omega) (by omega)]; unfold wrap64 gotF; omega
theorem get_o : wrap64 (bits .and .u32 (v / 262144) 3) = gotO v := by rw [u32_and3 _ (by omega) (by omega)]; unfold wrap64 gotO; omega
theorem get_c : wrap64 (bits .and .u32 (v / 1048576) 3) = gotC v := by rw [u32_and3 _ (by omega) (by omega)]; unfold wrap64 gotC; omega
theorem get_i : (bits .and .u32 (v / 4194304) 1 != 0) = gotI v := by
  rw [u32_and1 _ (by omega) (by omega)]; unfold gotI
  rcases Int.emod_two_eq (v / 4194304) with h | h <;> simp [h]
theorem get_l : (bits .and .u32 (v / 8388608) 1 != 0) = gotL v := by
  rw [u32_and1 _ (by omega) (by omega)]; unfold gotL
  rcases Int.emod_two_eq (v / 8388608) with h | h <;> simp [h]
theorem rget_i : (bits .and .u32 (v / 4194304) 1 == 1) = gotI v := by
  rw [u32_and1 _ (by omega) (by omega)]; unfold gotI
  rcases Int.emod_two_eq (v / 4194304) with h | h <;> simp [h]
theorem rget_l : (bits .and .u32 (v / 8388608) 1 == 1) = gotL v := by
  rw [u32_and1 _ (by omega) (by omega)]; unfold gotL
  rcases Int.emod_two_eq (v / 8388608) with h | h <;> simp [h]
end

theorem and_and_not : ∀ (n x m : Nat), x < 2 ^ n → m < 2 ^ n → (x &&& m) + (x &&& (2 ^ n - 1 - m)) = x
  | 0, x, m, hx, hm => by
    have : x = 0 := by omega
    subst this; simp
  | n + 1, x, m, hx, hm => by
    have hp : 2 ^ (n + 1) = 2 * 2 ^ n := by rw [Nat.pow_succ]; omega
    have ih := and_and_not n (x / 2) (m / 2) (by omega) (by omega)
    have h1 : (x &&& m) / 2 = x / 2 &&& m / 2 := Nat.and_div_two
    have h2 : (x &&& (2 ^ (n + 1) - 1 - m)) / 2 = x / 2 &&& (2 ^ n - 1 - m / 2) := by
      rw [Nat.and_div_two]; congr 1; omega
    have h3 : (x &&& m) % 2 = (x % 2) &&& (m % 2) := by simpa using Nat.and_mod_two_pow (a := x) (b := m) (n := 1)
    have h4 : (x &&& (2 ^ (n + 1) - 1 - m)) % 2 = (x % 2) &&& ((2 ^ (n + 1) - 1 - m) % 2) := by simpa using Nat.and_mod_two_pow (a := x) (b := 2 ^ (n + 1) - 1 - m) (n := 1)
    have h5 : (2 ^ (n + 1) - 1 - m) % 2 = 1 - m % 2 := by omega
    rw [h5] at h4
    have e : (x % 2 &&& m % 2) + (x % 2 &&& (1 - m % 2)) = x % 2 := by
      rcases Nat.mod_two_eq_zero_or_one x with a | a <;> rcases Nat.mod_two_eq_zero_or_one m with b | b <;> simp [a, b]
    omega
theorem and_field (x k n : Nat) : x &&& ((2 ^ n - 1) * 2 ^ k) = x / 2 ^ k % 2 ^ n * 2 ^ k := by
  apply Nat.eq_of_testBit_eq
  intro i
  rw [Nat.testBit_and, Nat.testBit_mul_two_pow, Nat.testBit_mul_two_pow, Nat.testBit_mod_two_pow, Nat.testBit_two_pow_sub_one, Nat.testBit_div_two_pow]
  by_cases h : k ≤ i
  · simp [h, Bool.and_comm]
  · simp [h]
theorem u32_andNot_field (x : Int) (k n : Nat) (m : Int) (hm : m = (((2 ^ n - 1) * 2 ^ k : Nat) : Int)) (hb : (2 ^ n - 1) * 2 ^ k < 4294967296) (h0 : 0 ≤ x) (h1 : x < 4294967296) : bits .andNot .u32 x m = x - x / ((2 ^ k : Nat) : Int) % ((2 ^ n : Nat) : Int) * ((2 ^ k : Nat) : Int) := by
  subst hm
  obtain ⟨a, rfl⟩ := Int.eq_ofNat_of_zero_le h0
  rw [u32_andNot_nat a _ (by omega) hb]
  have e := and_and_not 32 a ((2 ^ n - 1) * 2 ^ k) (by omega) (by omega)
  rw [and_field] at e
  have e2 : (((a / 2 ^ k % 2 ^ n * 2 ^ k : Nat)) : Int) = (a : Int) / ((2 ^ k : Nat) : Int) % ((2 ^ n : Nat) : Int) * ((2 ^ k : Nat) : Int) := by
    rw [Int.natCast_mul, Int.natCast_emod, Int.natCast_ediv]
  rw [← e2]
  have e3 : a / 2 ^ k % 2 ^ n * 2 ^ k + (a &&& (4294967295 - (2 ^ n - 1) * 2 ^ k)) = a := e
  omega
theorem andNot0 (x : Int) (h0 : 0 ≤ x) (h1 : x < 4294967296) : bits .andNot .u32 x 65535 = x - x % 65536 := by
  have := u32_andNot_field x 0 16 65535 rfl (by decide) h0 h1
  rw [this]; omega
theorem andNot1 (x : Int) (h0 : 0 ≤ x) (h1 : x < 4294967296) : bits .andNot .u32 x 196608 = x - x / 65536 % 4 * 65536 := u32_andNot_field x 16 2 196608 rfl (by decide) h0 h1
theorem andNot2 (x : Int) (h0 : 0 ≤ x) (h1 : x < 4294967296) : bits .andNot .u32 x 786432 = x - x / 262144 % 4 * 262144 := u32_andNot_field x 18 2 786432 rfl (by decide) h0 h1
theorem andNot3 (x : Int) (h0 : 0 ≤ x) (h1 : x < 4294967296) : bits .andNot .u32 x 3145728 = x - x / 1048576 % 4 * 1048576 := u32_andNot_field x 20 2 3145728 rfl (by decide) h0 h1
theorem andNot4 (x : Int) (h0 : 0 ≤ x) (h1 : x < 4294967296) : bits .andNot .u32 x 4194304 = x - x / 4194304 % 2 * 4194304 := u32_andNot_field x 22 1 4194304 rfl (by decide) h0 h1
theorem andNot5 (x : Int) (h0 : 0 ≤ x) (h1 : x < 4294967296) : bits .andNot .u32 x 8388608 = x - x / 8388608 % 2 * 8388608 := u32_andNot_field x 23 1 8388608 rfl (by decide) h0 h1

/-! ### there and back -/
theorem bitN_gotI (v : Int) : bitN (gotI v) = v / 4194304 % 2 := by
  unfold bitN gotI; rcases Int.emod_two_eq (v / 4194304) with h | h <;> simp [h]
theorem bitN_gotL (v : Int) : bitN (gotL v) = v / 8388608 % 2 := by
  unfold bitN gotL; rcases Int.emod_two_eq (v / 8388608) with h | h <;> simp [h]
theorem put_got (v : Int) : putN (gotS v) (gotF v) (gotO v) (gotC v) (gotI v) (gotL v) = v % 16777216 := by
  unfold putN; rw [bitN_gotI, bitN_gotL]; unfold gotS gotF gotO gotC; omega
section
variable (s f o c : Int) (fi li : Bool) (m : Int)
theorem got_s : gotS (putN s f o c fi li + m * 16777216) = s % 65536 := by
  have h1 := bitN_bd fi; have h2 := bitN_bd li
  unfold gotS putN; omega
theorem got_f : gotF (putN s f o c fi li + m * 16777216) = f % 4 := by
  have h1 := bitN_bd fi; have h2 := bitN_bd li
  unfold gotF putN; omega
theorem got_o : gotO (putN s f o c fi li + m * 16777216) = o % 4 := by
  have h1 := bitN_bd fi; have h2 := bitN_bd li
  unfold gotO putN; omega
theorem got_c : gotC (putN s f o c fi li + m * 16777216) = c % 4 := by
  have h1 := bitN_bd fi; have h2 := bitN_bd li
  unfold gotC putN; omega
theorem got_i : gotI (putN s f o c fi li + m * 16777216) = fi := by
  have h2 := bitN_bd li
  unfold gotI putN
  cases fi <;> simp [bitN] <;> (cases li <;> simp <;> omega)
theorem got_l : gotL (putN s f o c fi li + m * 16777216) = li := by
  have h2 := bitN_bd fi
  unfold gotL putN
  cases li <;> simp [bitN] <;> (cases fi <;> simp <;> omega)
end
end Go.Proofs.Ytjpalcejmloocaa.Plain
