/-
  Floats of 64 bits that are whole numbers, halves and quarters: sums, products, orders and conversions are exact (over the kit's Ieee core).
-/
import Derived.Laws.ComplexArith
import Derived.WalkKit
namespace Go.Proofs.YtnhijjcplnomgaaGreat.Flt
open Ieee

theorem log2_shift (m k : Nat) (h : m ≠ 0) : (m * 2 ^ k).log2 = m.log2 + k := by
  induction k with
  | zero => simp
  | succ k ih =>
    have h2 : m * 2 ^ k ≠ 0 := Nat.mul_ne_zero h (by have := Nat.two_pow_pos k; omega)
    rw [Nat.pow_succ, ← Nat.mul_assoc, Nat.mul_comm, Nat.log2_two_mul h2, ih]
    omega
theorem cut0 (s : Bool) (n : Nat) : Toward.even.cut s n 0 = n := by
  simp [Toward.cut, Nat.mod_one]
theorem cut_exact (s : Bool) (k d : Nat) (hk : k ≠ 0) : Toward.even.cut s (k * 2 ^ d) d = k := by
  have hl : (k * 2 ^ d).log2 = k.log2 + d := log2_shift k d hk
  have hm : min d ((k * 2 ^ d).log2 + 2) = d := by omega
  have hp : 0 < 2 ^ d := Nat.two_pow_pos d
  simp only [Toward.cut, hm, Nat.one_shiftLeft, Nat.mul_div_cancel _ hp, Nat.mul_mod_left]
  have h2 : (2 ^ d == 2 * 0) = false := by simp
  simp [h2]
theorem cut_zero (s : Bool) (n d : Nat) : Toward.zero.cut s n d = n / 2 ^ d := by
  simp only [Toward.cut, Nat.one_shiftLeft, Bool.toNat_false, Nat.add_zero]
  by_cases h : d ≤ n.log2 + 2
  · rw [Nat.min_eq_left h]
  · rw [Nat.min_eq_right (by omega)]
    have h1 : n < 2 ^ (n.log2 + 1) := Nat.lt_log2_self
    have h2 : 2 ^ (n.log2 + 1) ≤ 2 ^ (n.log2 + 2) := Nat.pow_le_pow_right (by omega) (by omega)
    have h3 : 2 ^ (n.log2 + 2) ≤ 2 ^ d := Nat.pow_le_pow_right (by omega) (by omega)
    rw [Nat.div_eq_of_lt (by omega), Nat.div_eq_of_lt (by omega)]

/-- a magnitude N quarters, as a mantissa and a place -/
def Quart (N m : Nat) (p : Int) : Prop := (-2 ≤ p ∧ N = m * 2 ^ (p + 2).toNat) ∨ (p ≤ -2 ∧ m = N * 2 ^ (-2 - p).toNat)

theorem pow_split (a b : Nat) : 2 ^ (a + b) = 2 ^ a * 2 ^ b := Nat.pow_add 2 a b
theorem kept_bd (N : Nat) (h0 : 0 < N) (h1 : N < 9007199254740992) : 4503599627370496 ≤ N * 2 ^ (52 - N.log2) ∧ N * 2 ^ (52 - N.log2) < 9007199254740992 ∧ N.log2 ≤ 52 := by
  have hl : N.log2 < 53 := (Nat.log2_lt (by omega)).2 (by simpa using h1)
  have a : 2 ^ N.log2 ≤ N := Nat.log2_self_le (by omega)
  have b : N < 2 ^ (N.log2 + 1) := Nat.lt_log2_self
  have e1 : 2 ^ N.log2 * 2 ^ (52 - N.log2) = 4503599627370496 := by rw [← Nat.pow_add, show N.log2 + (52 - N.log2) = 52 from by omega]
  have e2 : 2 ^ (N.log2 + 1) * 2 ^ (52 - N.log2) = 9007199254740992 := by rw [← Nat.pow_add, show N.log2 + 1 + (52 - N.log2) = 53 from by omega]
  have hp : 0 < 2 ^ (52 - N.log2) := Nat.two_pow_pos _
  refine ⟨?_, ?_, by omega⟩
  · rw [← e1]; exact Nat.mul_le_mul_right _ a
  · rw [← e2]; exact Nat.mul_lt_mul_of_pos_right b hp
theorem near_kept (s : Bool) (N m : Nat) (p : Int) (hN : N ≠ 0) (hl : N.log2 ≤ 52) (hq : Quart N m p) :
    Toward.even.cut s (m <<< (p - ((N.log2 : Int) - 54)).toNat) ((N.log2 : Int) - 54 - p).toNat = N * 2 ^ (52 - N.log2) := by
  obtain ⟨L, hL⟩ : ∃ L, L = N.log2 := ⟨_, rfl⟩
  rw [← hL] at hl ⊢
  have hz : N * 2 ^ (52 - L) ≠ 0 := Nat.mul_ne_zero hN (by have := Nat.two_pow_pos (52 - L); omega)
  by_cases hc : (L : Int) - 54 ≤ p
  · rw [show ((L : Int) - 54 - p).toNat = 0 from by omega, cut0, Nat.shiftLeft_eq]
    rcases hq with ⟨hp, h⟩ | ⟨hp, h⟩
    · have e : (p - ((L : Int) - 54)).toNat = (p + 2).toNat + (52 - L) := by omega
      rw [e, Nat.pow_add, ← Nat.mul_assoc, ← h]
    · have e : 52 - L = (-2 - p).toNat + (p - ((L : Int) - 54)).toNat := by omega
      rw [e, Nat.pow_add, ← Nat.mul_assoc, ← h]
  · have h : m = N * 2 ^ (-2 - p).toNat := by
      rcases hq with ⟨hp', h⟩ | ⟨hp', h⟩
      · omega
      · exact h
    have e : (-2 - p).toNat = (52 - L) + ((L : Int) - 54 - p).toNat := by omega
    rw [e, Nat.pow_add, ← Nat.mul_assoc] at h
    rw [show (p - ((L : Int) - 54)).toNat = 0 from by omega, Nat.shiftLeft_zero, h]
    exact cut_exact s _ _ hz
theorem quart_ne {N m : Nat} {p : Int} (hN : N ≠ 0) (hq : Quart N m p) : m ≠ 0 := by
  rintro rfl
  rcases hq with ⟨_, h⟩ | ⟨_, h⟩
  · simp at h; exact hN h
  · have h2 := Nat.two_pow_pos (-2 - p).toNat
    have h3 := Nat.mul_ne_zero hN (Nat.ne_of_gt h2)
    exact h3 h.symm
theorem quart_log {N m : Nat} {p : Int} (hN : N ≠ 0) (hq : Quart N m p) : p + (m.log2 : Int) = (N.log2 : Int) - 2 := by
  have hm := quart_ne hN hq
  rcases hq with ⟨hp, h⟩ | ⟨hp, h⟩
  · rw [h, log2_shift m _ hm]; omega
  · rw [h, log2_shift N _ hN]; omega
theorem near (s : Bool) (N m : Nat) (p : Int) (h0 : N ≠ 0) (h1 : N < 9007199254740992) (hq : Quart N m p) :
    double.nearest s m p = double.word s ((N.log2 + 1020) * 4503599627370496 + N * 2 ^ (52 - N.log2)) := by
  obtain ⟨hk1, hk2, hl⟩ := kept_bd N (Nat.pos_of_ne_zero h0) h1
  have hm := quart_ne h0 hq
  have hlog := quart_log h0 hq
  have hkept := near_kept s N m p h0 hl hq
  have hb : double.binade = 4503599627370496 := rfl
  have hfb : double.fractionBits = 52 := rfl
  have hlp : double.leastPlace = -1074 := rfl
  have hir : double.infRung = 9218868437227405312 := rfl
  unfold Format.nearest
  rw [if_neg hm]
  simp only [hb, hfb, hlp, hir]
  have hlast : max (p + (m.log2 : Int) - (52 : Nat)) (-1074) = (N.log2 : Int) - 54 := by omega
  rw [hlast, hkept]
  generalize N * 2 ^ (52 - N.log2) = K at hk1 hk2 ⊢
  clear hkept hlog
  have e : ((N.log2 : Int) - 54 - -1074).toNat = N.log2 + 1020 := by omega
  rw [e, Nat.min_eq_left (by omega)]
theorem read_word (s : Bool) (r : Nat) (h1 : 4503599627370496 ≤ r) (h2 : r < 9218868437227405312) :
    double.read (double.word s r) = .number s (4503599627370496 + r % 4503599627370496) (-1074 + ((r / 4503599627370496 - 1 : Nat) : Int)) := by
  have hb : double.binade = 4503599627370496 := rfl
  have hlp : double.leastPlace = -1074 := rfl
  have hir : double.infRung = 9218868437227405312 := rfl
  have hsw : double.signWeight = 9223372036854775808 := rfl
  unfold Format.read Format.word
  simp only [hb, hlp, hir, hsw]
  cases s
  · simp only [Bool.false_eq_true, if_false]
    have e1 : r % 9223372036854775808 = r := by omega
    have e2 : (r / 9223372036854775808 % 2 == 1) = false := by simp; omega
    rw [e1, e2, if_neg (by omega), if_pos (by omega)]
  · simp only [if_true]
    have e1 : (9223372036854775808 + r) % 9223372036854775808 = r := by omega
    have e2 : ((9223372036854775808 + r) / 9223372036854775808 % 2 == 1) = true := by simp; omega
    rw [e1, e2, if_neg (by omega), if_pos (by omega)]
theorem read_zero (s : Bool) : double.read (double.word s 0) = .number s 0 (-1074) := by
  cases s <;> rfl
/-- what is written of N quarters is read as N quarters -/
theorem back (s : Bool) (N m : Nat) (p : Int) (h1 : N < 9007199254740992) (hq : Quart N m p) :
    ∃ m' p', double.read (double.nearest s m p) = .number s m' p' ∧ Quart N m' p' ∧ -1074 ≤ p' := by
  by_cases h0 : N = 0
  · subst h0
    have hm : m = 0 := by
      rcases hq with ⟨_, h⟩ | ⟨_, h⟩
      · have := Nat.two_pow_pos (p + 2).toNat
        rcases Nat.eq_zero_or_pos m with h' | h'
        · exact h'
        · have := Nat.mul_pos h' this; omega
      · simpa using h
    subst hm
    refine ⟨0, -1074, ?_, .inr ⟨by omega, by rw [Nat.zero_mul]⟩, by omega⟩
    unfold Format.nearest
    rw [if_pos rfl, read_zero]
  · obtain ⟨hk1, hk2, hl⟩ := kept_bd N (Nat.pos_of_ne_zero h0) h1
    rw [near s N m p h0 h1 hq]
    refine ⟨N * 2 ^ (52 - N.log2), (N.log2 : Int) - 54, ?_, .inr ⟨by omega, ?_⟩, by omega⟩
    · generalize N * 2 ^ (52 - N.log2) = K at hk1 hk2 ⊢
      rw [read_word s _ (by omega) (by omega)]
      congr 1 <;> omega
    · rw [show (-2 - ((N.log2 : Int) - 54)).toNat = 52 - N.log2 from by omega]

/-- the bits b are z quarters (whatever the sign of a zero) -/
def Rep (b : Nat) (z : Int) : Prop := ∃ s m p, double.read b = .number s m p ∧ Quart z.natAbs m p ∧ -1074 ≤ p ∧ (z ≠ 0 → s = decide (z < 0))

theorem signed_quart {s : Bool} {m : Nat} {p : Int} {z : Int} (hq : Quart z.natAbs m p) (hs : z ≠ 0 → s = decide (z < 0)) (base : Int) (hb : base ≤ p) :
    (base ≤ -2 → signed s m (p - base).toNat = z * 2 ^ (-2 - base).toNat) ∧ (-2 ≤ base → signed s m (p - base).toNat * 2 ^ (base + 2).toNat = z) := by
  have key : (base ≤ -2 → m * 2 ^ (p - base).toNat = z.natAbs * 2 ^ (-2 - base).toNat) ∧ (-2 ≤ base → m * 2 ^ (p - base).toNat * 2 ^ (base + 2).toNat = z.natAbs) := by
    rcases hq with ⟨hp, h⟩ | ⟨hp, h⟩
    · refine ⟨fun hbb => ?_, fun hbb => ?_⟩
      · rw [h, Nat.mul_assoc, ← Nat.pow_add, show (p + 2).toNat + (-2 - base).toNat = (p - base).toNat from by omega]
      · rw [h, Nat.mul_assoc, ← Nat.pow_add, show (p - base).toNat + (base + 2).toNat = (p + 2).toNat from by omega]
    · refine ⟨fun hbb => ?_, fun hbb => ?_⟩
      · rw [h, Nat.mul_assoc, ← Nat.pow_add, show (-2 - p).toNat + (p - base).toNat = (-2 - base).toNat from by omega]
      · have e1 : p = -2 := by omega
        have e2 : base = -2 := by omega
        subst e1; subst e2
        rw [h]; simp
  have hsig : ∀ X : Nat, signed s X 0 = if s then -(X : Int) else (X : Int) := by intro X; unfold signed; simp
  have hz : z = if s then -(z.natAbs : Int) else (z.natAbs : Int) := by
    by_cases h0 : z = 0
    · subst h0; simp
    · rw [hs h0]
      by_cases hn : z < 0
      · simp only [hn, decide_true, if_true]; omega
      · simp only [hn, decide_false, Bool.false_eq_true, if_false]; omega
  unfold signed
  rw [Nat.shiftLeft_eq]
  refine ⟨fun hbb => ?_, fun hbb => ?_⟩
  · rw [key.1 hbb]
    conv => rhs; rw [hz]
    split <;> simp [Int.neg_mul]
  · have k2 := key.2 hbb
    conv => rhs; rw [hz, ← k2]
    split <;> simp [Int.neg_mul]

theorem natAbs_pow (z : Int) (k : Nat) : (z * 2 ^ k).natAbs = z.natAbs * 2 ^ k := by
  rw [Int.natAbs_mul, Int.natAbs_pow]; rfl
/-- a signed sum of quarters, at whatever base, is that many quarters -/
theorem quart_of_total {t z base : Int} (h1 : base ≤ -2 → t = z * 2 ^ (-2 - base).toNat) (h2 : -2 ≤ base → t * 2 ^ (base + 2).toNat = z) : Quart z.natAbs t.natAbs base ∧ (t = 0 ↔ z = 0) ∧ (t < 0 ↔ z < 0) := by
  by_cases hb : base ≤ -2
  · have h := h1 hb
    have hp : (0 : Int) < 2 ^ (-2 - base).toNat := Int.pow_pos (by omega)
    refine ⟨.inr ⟨hb, by rw [h, natAbs_pow]⟩, ?_, ?_⟩
    · rw [h]; constructor
      · intro hh; rcases Int.mul_eq_zero.1 hh with h' | h' <;> omega
      · rintro rfl; simp
    · rw [h]; constructor
      · intro hh
        rcases Int.lt_or_le z 0 with h' | h'
        · exact h'
        · have := Int.mul_nonneg h' (Int.le_of_lt hp); omega
      · intro hh; exact Int.mul_neg_of_neg_of_pos hh hp
  · have h := h2 (by omega)
    have hp : (0 : Int) < 2 ^ (base + 2).toNat := Int.pow_pos (by omega)
    refine ⟨.inl ⟨by omega, by rw [← h, natAbs_pow]⟩, ?_, ?_⟩
    · rw [← h]; constructor
      · rintro rfl; simp
      · intro hh; rcases Int.mul_eq_zero.1 hh with h' | h' <;> omega
    · rw [← h]; constructor
      · intro hh; exact Int.mul_neg_of_neg_of_pos hh hp
      · intro hh
        rcases Int.lt_or_le t 0 with h' | h'
        · exact h'
        · have := Int.mul_nonneg h' (Int.le_of_lt hp); omega
theorem rep_write {s : Bool} {m : Nat} {p z : Int} (hz : z.natAbs < 9007199254740992) (hq : Quart z.natAbs m p) (hs : z ≠ 0 → s = decide (z < 0)) : Rep (double.write (.number s m p)) z := by
  obtain ⟨m', p', hr, hq', hp'⟩ := back s z.natAbs m p hz hq
  exact ⟨s, m', p', hr, hq', hp', hs⟩
theorem sum_rep {a b : Nat} {y z : Int} (ha : Rep a y) (hb : Rep b z) (neg : Bool) (u : Int) (hu : u = y + (if neg then -z else z)) (hz : u.natAbs < 9007199254740992) :
    ∃ r, (if neg then double.sub a b else double.add a b) = some r ∧ Rep r u := by
  obtain ⟨s, m, p, hra, hqa, hpa, hsa⟩ := ha
  obtain ⟨t, n, q, hrb, hqb, hpb, hsb⟩ := hb
  have main : ∀ (t' : Bool) (z' : Int), z'.natAbs = z.natAbs → (z' ≠ 0 → t' = decide (z' < 0)) → u = y + z' →
      ∃ r, ((Datum.number s m p).sum (.number t' n q)).map double.write = some r ∧ Rep r u := by
    intro t' z' hz' hs' hu'
    have hq' : Quart z'.natAbs n q := by rw [hz']; exact hqb
    obtain ⟨a1, a2⟩ := signed_quart hqa hsa (min p q) (by omega)
    obtain ⟨b1, b2⟩ := signed_quart hq' hs' (min p q) (by omega)
    obtain ⟨hq, h0, hneg⟩ := quart_of_total (t := signed s m (p - min p q).toNat + signed t' n (q - min p q).toNat) (z := u) (base := min p q)
      (fun h => by rw [a1 h, b1 h, hu', Int.add_mul]) (fun h => by rw [Int.add_mul, a2 h, b2 h, hu'])
    refine ⟨_, rfl, rep_write hz hq (fun hne => ?_)⟩
    have ht : ¬ signed s m (p - min p q).toNat + signed t' n (q - min p q).toNat = 0 := fun hh => hne (h0.1 hh)
    rw [if_neg ht]
    simp only [hneg]
  cases neg
  · simp only [Bool.false_eq_true, if_false] at hu ⊢
    unfold Format.add
    rw [hra, hrb]
    exact main t z rfl hsb hu
  · simp only [if_true] at hu ⊢
    unfold Format.sub
    rw [hra, hrb]
    exact main (!t) (-z) (by omega) (fun hne => by
      have h1 : z ≠ 0 := by omega
      rw [hsb h1]
      by_cases h2 : z < 0
      · simp [h2]; omega
      · have : 0 < z := by omega
        simp [h2]; omega) hu
theorem quart_iff (N m : Nat) (p : Int) (c : Nat) (hc : 2 ≤ c) (hp : 0 ≤ p + c) : Quart N m p ↔ m * 2 ^ (p + c).toNat = N * 2 ^ (c - 2) := by
  constructor
  · rintro (⟨h1, h⟩ | ⟨h1, h⟩)
    · rw [h, Nat.mul_assoc, ← Nat.pow_add, show (p + 2).toNat + (c - 2) = (p + c).toNat from by omega]
    · rw [h, Nat.mul_assoc, ← Nat.pow_add, show (-2 - p).toNat + (p + c).toNat = c - 2 from by omega]
  · intro h
    by_cases h1 : -2 ≤ p
    · refine .inl ⟨h1, ?_⟩
      rw [show (p + c).toNat = (p + 2).toNat + (c - 2) from by omega, Nat.pow_add, ← Nat.mul_assoc] at h
      exact (Nat.eq_of_mul_eq_mul_right (Nat.two_pow_pos _) h).symm
    · refine .inr ⟨by omega, ?_⟩
      rw [show c - 2 = (-2 - p).toNat + (p + c).toNat from by omega, Nat.pow_add, ← Nat.mul_assoc] at h
      exact Nat.eq_of_mul_eq_mul_right (Nat.two_pow_pos _) h
theorem sign_mul {s t : Bool} {x y : Int} (hx : x ≠ 0 → s = decide (x < 0)) (hy : y ≠ 0 → t = decide (y < 0)) (h : x * y ≠ 0) : (s ^^ t) = decide (x * y < 0) := by
  have h1 : x ≠ 0 := by rintro rfl; simp at h
  have h2 : y ≠ 0 := by rintro rfl; simp at h
  rw [hx h1, hy h2]
  by_cases a : x < 0 <;> by_cases b : y < 0
  · have := Int.mul_pos_of_neg_of_neg a b
    simp [a, b]; omega
  · have := Int.mul_neg_of_neg_of_pos a (show 0 < y by omega)
    simp [a, b, this]
  · have := Int.mul_neg_of_pos_of_neg (show 0 < x by omega) b
    simp [a, b, this]
  · have := Int.mul_pos (show 0 < x by omega) (show 0 < y by omega)
    simp [a, b]; omega
set_option exponentiation.threshold 3000 in
theorem mul_rep {a b : Nat} {x y : Int} (ha : Rep a (4 * x)) (hb : Rep b (4 * y)) (hz : (4 * (x * y)).natAbs < 9007199254740992) : ∃ r, double.mul a b = some r ∧ Rep r (4 * (x * y)) := by
  obtain ⟨s, m, p, hra, hqa, hpa, hsa⟩ := ha
  obtain ⟨t, n, q, hrb, hqb, hpb, hsb⟩ := hb
  unfold Format.mul
  rw [hra, hrb]
  refine ⟨_, rfl, rep_write hz ?_ (fun hne => ?_)⟩
  · rw [quart_iff _ _ _ 1074 (by omega) (by omega)] at hqa hqb
    rw [quart_iff _ _ _ 2148 (by omega) (by omega)]
    have e : (p + q + (2148 : Nat)).toNat = (p + (1074 : Nat)).toNat + (q + (1074 : Nat)).toNat := by omega
    have e2 : (4 * (x * y)).natAbs = 4 * (x.natAbs * y.natAbs) := by rw [Int.natAbs_mul, Int.natAbs_mul]; rfl
    have e3 : (4 * x).natAbs = 4 * x.natAbs := by rw [Int.natAbs_mul]; rfl
    have e4 : (4 * y).natAbs = 4 * y.natAbs := by rw [Int.natAbs_mul]; rfl
    have e5 : 2148 - 2 = (1074 - 2) + (1074 - 2) + 2 := by omega
    rw [e3] at hqa; rw [e4] at hqb
    rw [e, e2, e5, Nat.pow_add, Nat.pow_add, Nat.pow_add]
    generalize 2 ^ (p + (1074 : Nat)).toNat = P1 at hqa ⊢
    generalize 2 ^ (q + (1074 : Nat)).toNat = P2 at hqb ⊢
    generalize 2 ^ (1074 - 2) = C at hqa hqb ⊢
    calc m * n * (P1 * P2) = (m * P1) * (n * P2) := by simp only [Nat.mul_left_comm, Nat.mul_comm]
      _ = (4 * x.natAbs * C) * (4 * y.natAbs * C) := by rw [hqa, hqb]
      _ = 4 * (x.natAbs * y.natAbs) * (C * C * 2 ^ 2) := by
        rw [show (2 : Nat) ^ 2 = 4 from rfl]
        simp only [Nat.mul_assoc, Nat.mul_left_comm, Nat.mul_comm]
  · have h1 : x * y ≠ 0 := by intro h; rw [h] at hne; simp at hne
    have := sign_mul (x := x) (y := y) (s := s) (t := t) (fun h => by rw [hsa (by omega)]; congr 1; rw [eq_iff_iff]; omega) (fun h => by rw [hsb (by omega)]; congr 1; rw [eq_iff_iff]; omega) h1
    rw [this]; congr 1; rw [eq_iff_iff]; omega
theorem cmp_of {a b c d : Int} (h1 : a < b ↔ c < d) (h2 : a = b ↔ c = d) : compare a b = compare c d := by
  simp only [compare, compareOfLessAndEq, h1, h2]
theorem order_rep {a b : Nat} {y z : Int} (ha : Rep a y) (hb : Rep b z) : double.order a b = some (compare y z) := by
  obtain ⟨s, m, p, hra, hqa, hpa, hsa⟩ := ha
  obtain ⟨t, n, q, hrb, hqb, hpb, hsb⟩ := hb
  obtain ⟨a1, a2⟩ := signed_quart hqa hsa (min p q) (by omega)
  obtain ⟨b1, b2⟩ := signed_quart hqb hsb (min p q) (by omega)
  obtain ⟨_, h0, hneg⟩ := quart_of_total (t := signed s m (p - min p q).toNat - signed t n (q - min p q).toNat) (z := y - z) (base := min p q)
    (fun h => by rw [a1 h, b1 h, Int.sub_mul]) (fun h => by rw [Int.sub_mul, a2 h, b2 h])
  unfold Format.order
  rw [hra, hrb]
  simp only [Datum.order]
  rw [cmp_of (c := y) (d := z) (by omega) (by omega)]
theorem tdiv4 (z : Int) : z - 4 < 4 * z.tdiv 4 ∧ 4 * z.tdiv 4 < z + 4 ∧ (4 * z.tdiv 4 = z ↔ z % 4 = 0) := by
  rcases Int.lt_or_le z 0 with h | h
  · obtain ⟨k, rfl⟩ : ∃ k : Nat, z = -(k : Int) := ⟨z.natAbs, by omega⟩
    rw [Int.neg_tdiv, Int.tdiv_eq_ediv_of_nonneg (by omega)]
    omega
  · rw [Int.tdiv_eq_ediv_of_nonneg h]; omega
theorem toInt_rep {b : Nat} {z : Int} (hb : Rep b z) (h1 : -36028797018963968 < z) (h2 : z < 36028797018963968) : floatToIntVal .f64 b .i64 = some (z.tdiv 4) := by
  obtain ⟨s, m, p, hr, hq, hp, hs⟩ := hb
  have hd : FloatKind.f64.decode b = double.read b := rfl
  have hcut : (m <<< p.toNat) / 2 ^ (-p).toNat = z.natAbs / 4 := by
    rw [Nat.shiftLeft_eq]
    rcases hq with ⟨hp2, h⟩ | ⟨hp2, h⟩
    · by_cases h0 : 0 ≤ p
      · rw [show (-p).toNat = 0 from by omega, h, show (p + 2).toNat = p.toNat + 2 from by omega, Nat.pow_add, ← Nat.mul_assoc]
        simp
      · rcases (by omega : p = -1 ∨ p = -2) with rfl | rfl
        · simp at h ⊢; omega
        · simp at h ⊢; omega
    · have e : (-p).toNat = (-2 - p).toNat + 2 := by omega
      rw [show p.toNat = 0 from by omega, e, h, Nat.pow_add]
      have hpos := Nat.two_pow_pos (-2 - p).toNat
      rw [Nat.pow_zero, Nat.mul_one, ← Nat.div_div_eq_div_mul, Nat.mul_div_cancel _ hpos]
  have hti : (double.read b).toInt .zero = some (z.tdiv 4) := by
    rw [hr]
    simp only [Datum.toInt, Datum.integral, cut_zero, hcut]
    congr 1
    unfold signed
    rw [Nat.shiftLeft_zero]
    by_cases h0 : z = 0
    · subst h0; cases s <;> rfl
    · rw [hs h0]
      by_cases hn : z < 0
      · simp only [hn, decide_true, if_true]
        obtain ⟨k, rfl⟩ : ∃ k : Nat, z = -(k : Int) := ⟨z.natAbs, by omega⟩
        rw [Int.neg_tdiv, Int.tdiv_eq_ediv_of_nonneg (by omega)]
        simp
      · simp only [hn, decide_false, Bool.false_eq_true, if_false]
        rw [Int.tdiv_eq_ediv_of_nonneg (by omega)]
        omega
  unfold floatToIntVal
  rw [hd, hti]
  have b1 : -36028797018963968 ≤ z.tdiv 4 ∧ z.tdiv 4 ≤ 36028797018963968 := by have := tdiv4 z; omega
  have e1 : IntKind.i64.min = -9223372036854775808 := rfl
  have e2 : IntKind.i64.max = 9223372036854775807 := rfl
  simp only [e1, e2]
  rw [if_pos (by omega)]
theorem ofInt_rep (n : Int) (h : n.natAbs < 2251799813685248) : Rep (floatOfInt .f64 n) (4 * n) := by
  have e : floatOfInt .f64 n = double.write (.number (decide (n < 0)) n.natAbs 0) := rfl
  rw [e]
  refine rep_write (by omega) (.inl ⟨by omega, ?_⟩) (fun _ => by congr 1; rw [eq_iff_iff]; omega)
  simp; omega

/-! ### what is no number -/
def NoNum (b : Nat) : Prop := (∃ s, double.read b = .infinity s) ∨ ∃ s f, double.read b = .nan s f
theorem read_inf (s : Bool) : double.read (double.word s double.infRung) = .infinity s := by cases s <;> rfl
/-- a number and what is none: none, and no draw, if it is an infinity -/
theorem add_inf {a b : Nat} {y : Int} {s : Bool} (ha : Rep a y) (hb : double.read b = .infinity s) : ∃ r, double.add a b = some r ∧ double.read r = .infinity s := by
  obtain ⟨t, m, p, hra, _⟩ := ha
  unfold Format.add
  rw [hra, hb]
  exact ⟨_, rfl, read_inf s⟩
theorem add_nan {a b : Nat} {y : Int} {s : Bool} {f : Nat} (ha : Rep a y) (hb : double.read b = .nan s f) : double.add a b = none := by
  obtain ⟨t, m, p, hra, _⟩ := ha
  unfold Format.add
  rw [hra, hb]
  rfl
theorem read_nanWord (s : Bool) (r : Nat) (h1 : 9218868437227405312 < r) (h2 : r < 9223372036854775808) : ∃ s' f, double.read (double.word s r) = .nan s' f := by
  have hb : double.binade = 4503599627370496 := rfl
  have hir : double.infRung = 9218868437227405312 := rfl
  have hsw : double.signWeight = 9223372036854775808 := rfl
  unfold Format.read Format.word
  simp only [hb, hir, hsw]
  cases s
  · simp only [Bool.false_eq_true, if_false]
    have e1 : r % 9223372036854775808 = r := by omega
    rw [e1, if_neg (by omega), if_neg (by omega), if_neg (by omega)]
    exact ⟨_, _, rfl⟩
  · simp only [if_true]
    have e1 : (9223372036854775808 + r) % 9223372036854775808 = r := by omega
    rw [e1, if_neg (by omega), if_neg (by omega), if_neg (by omega)]
    exact ⟨_, _, rfl⟩
theorem read_nanBits (t : Nat) : ∃ s f, double.read ((t % 2) * 9223372036854775808 + 9218868437227405312 + 1 + (t / 2) % 4503599627370495) = .nan s f := by
  have h1 : (t / 2) % 4503599627370495 < 4503599627370495 := Nat.mod_lt _ (by omega)
  generalize (t / 2) % 4503599627370495 = r at h1 ⊢
  have hsw : double.signWeight = 9223372036854775808 := rfl
  rcases (by omega : t % 2 = 0 ∨ t % 2 = 1) with h | h
  · rw [h]
    have := read_nanWord false (9218868437227405312 + 1 + r) (by omega) (by omega)
    rw [show double.word false (9218868437227405312 + 1 + r) = 0 * 9223372036854775808 + 9218868437227405312 + 1 + r from by unfold Format.word; simp only [Bool.false_eq_true, if_false, Nat.zero_mul, Nat.zero_add]] at this
    exact this
  · rw [h]
    have := read_nanWord true (9218868437227405312 + 1 + r) (by omega) (by omega)
    rw [show double.word true (9218868437227405312 + 1 + r) = 1 * 9223372036854775808 + 9218868437227405312 + 1 + r from by unfold Format.word; simp only [if_true, hsw]; omega] at this
    exact this
theorem order_inf {a b : Nat} {y : Int} {s : Bool} (ha : Rep a y) (hb : double.read b = .infinity s) : double.order b a = some (if s then .lt else .gt) := by
  obtain ⟨t, m, p, hra, _⟩ := ha
  unfold Format.order
  rw [hra, hb]
  rfl
theorem order_nan {a b : Nat} {y : Int} {s : Bool} {f : Nat} (ha : Rep a y) (hb : double.read b = .nan s f) : double.order b a = none := by
  obtain ⟨t, m, p, hra, _⟩ := ha
  unfold Format.order
  rw [hra, hb]
  rfl
end Go.Proofs.YtnhijjcplnomgaaGreat.Flt
