/-
  Plain facts, with no program in sight: bits of numbers below 2^32 as quotients and remainders; words of numbers and places (chapter 1).
-/
import Derived.WalkKit
namespace Go.Proofs.Ytjpalcejmloocaa.Plain
open Go.RowKit

theorem ret_int {k : IntKind} {a b : Int} (h : a = b) : Ending.returned (.int k a) = .returned (.int k b) := by rw [h]
theorem ret_bool {a b : Bool} (h : a = b) : Ending.returned (.bool a) = .returned (.bool b) := by rw [h]

/-! ### bits at uint32 -/
theorem u32_and_mask (x : Int) (k : Nat) (hk : k ≤ 32) (h0 : 0 ≤ x) (h1 : x < 4294967296) (m : Int) (hm : m = ((2 ^ k - 1 : Nat) : Int)) : bits .and .u32 x m = x % ((2 ^ k : Nat) : Int) := by
  subst hm
  obtain ⟨n, rfl⟩ := Int.eq_ofNat_of_zero_le h0
  have hp : 2 ^ k ≤ 2 ^ 32 := Nat.pow_le_pow_right (by omega) hk
  have hp0 : 0 < 2 ^ k := Nat.pow_pos (by omega)
  rw [u32_and_nat n (2 ^ k - 1) (by omega) (by omega), Nat.and_two_pow_sub_one_eq_mod]
  exact Int.natCast_emod n (2 ^ k)
theorem u32_and1 (x : Int) (h0 : 0 ≤ x) (h1 : x < 4294967296) : bits .and .u32 x 1 = x % 2 := u32_and_mask x 1 (by omega) h0 h1 1 rfl
theorem u32_and3 (x : Int) (h0 : 0 ≤ x) (h1 : x < 4294967296) : bits .and .u32 x 3 = x % 4 := u32_and_mask x 2 (by omega) h0 h1 3 rfl
theorem u32_and16 (x : Int) (h0 : 0 ≤ x) (h1 : x < 4294967296) : bits .and .u32 x 65535 = x % 65536 := u32_and_mask x 16 (by omega) h0 h1 65535 rfl
theorem u32_and24 (x : Int) (h0 : 0 ≤ x) (h1 : x < 4294967296) : bits .and .u32 x 16777215 = x % 16777216 := u32_and_mask x 24 (by omega) h0 h1 16777215 rfl
/-- an 'or' of what lies below a power of two and of a multiple of it is their sum -/
theorem u32_or_sum (x y : Int) (k : Nat) (h0 : 0 ≤ x) (hx : x < ((2 ^ k : Nat) : Int)) (hy0 : 0 ≤ y) (hy : y * ((2 ^ k : Nat) : Int) < 4294967296) (hk : k ≤ 32) : bits .or .u32 x (y * ((2 ^ k : Nat) : Int)) = x + y * ((2 ^ k : Nat) : Int) := by
  obtain ⟨n, rfl⟩ := Int.eq_ofNat_of_zero_le h0
  obtain ⟨m, rfl⟩ := Int.eq_ofNat_of_zero_le hy0
  have hp : 2 ^ k ≤ 2 ^ 32 := Nat.pow_le_pow_right (by omega) hk
  have hn : n < 2 ^ k := Int.ofNat_lt.1 hx
  have hm : m * 2 ^ k < 4294967296 := by
    have h : ((m * 2 ^ k : Nat) : Int) < 4294967296 := by rw [Int.natCast_mul]; exact hy
    omega
  rw [show (m : Int) * ((2 ^ k : Nat) : Int) = ((m * 2 ^ k : Nat) : Int) from (Int.natCast_mul m (2 ^ k)).symm, u32_or_nat n _ (by omega) hm]
  rw [Nat.or_comm, ← Nat.shiftLeft_eq, ← Nat.shiftLeft_add_eq_or_of_lt hn, Nat.shiftLeft_eq]
  omega

/-! ### words of numbers and places -/
def fitsB (v : Int) : Bool := decide (-536870912 ≤ v ∧ v < 536870912)
theorem fits_yes {v : Int} (h1 : -536870912 ≤ v) (h2 : v < 536870912) : fitsB v = true := by simp [fitsB]; omega
theorem fits_no {v : Int} (h : v < -536870912 ∨ 536870912 ≤ v) : fitsB v = false := by simp [fitsB]; omega
theorem fits_of {v : Int} (h : fitsB v = true) : -536870912 ≤ v ∧ v < 536870912 := by simpa [fitsB] using h
def cutI (v : Int) : Int := if v < -1073741824 then -1073741824 else if 1073741823 < v then 1073741823 else v
def intW (v : Int) : Int := (2 * cutI v + 1) % 4294967296
def refW (v : Int) : Int := 2 * (if v < 0 then 0 else if 2147483647 < v then 2147483647 else v)
def isIntB (w : Int) : Bool := decide (w % 2 = 1)
def intOfW (w : Int) : Int := if w % 2 = 1 then (if w < 2147483648 then w / 2 else (w - 4294967296) / 2) else 0
def refOfW (w : Int) : Int := if w % 2 = 1 then 0 else w / 2
theorem intW_bd (v : Int) : 0 ≤ intW v ∧ intW v < 4294967296 := by unfold intW; omega
theorem refW_bd (v : Int) : 0 ≤ refW v ∧ refW v < 4294967296 := by unfold refW; split <;> (try split) <;> omega
end Go.Proofs.Ytjpalcejmloocaa.Plain
