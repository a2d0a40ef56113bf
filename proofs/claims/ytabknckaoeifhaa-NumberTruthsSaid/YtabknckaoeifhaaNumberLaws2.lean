/-
  The walk of NumberLaws, and the laws' own functions.
-/
import Derived.Test.YtabknckaoeifhaaNumberLaws
namespace Go.Proofs.Ytabknckaoeifhaa.NumberLaws
open Go.RowKit Go.Proofs.Ytabknckaoeifhaa.Plain Go.Proofs.Ytabknckaoeifhaa.Word Go.Proofs.Ytabknckaoeifhaa.Number
set_option linter.unusedVariables false

/-! ### the plain laws of numbers: and, or, exclusive or -/
theorem xor_split : ∀ (n x y : Nat), x < 2 ^ n → y < 2 ^ n → (x &&& y) + (x ||| y) = x + y ∧ (x ||| y) = (x &&& y) + (x ^^^ y)
  | 0, x, y, hx, hy => by
    have h1 : x = 0 := by omega
    have h2 : y = 0 := by omega
    subst h1 h2; simp
  | n + 1, x, y, hx, hy => by
    have hp : 2 ^ (n + 1) = 2 * 2 ^ n := by rw [Nat.pow_succ]; omega
    obtain ⟨ih1, ih2⟩ := xor_split n (x / 2) (y / 2) (by omega) (by omega)
    have h1 : (x &&& y) / 2 = x / 2 &&& y / 2 := Nat.and_div_two
    have h2 : (x ||| y) / 2 = x / 2 ||| y / 2 := Nat.or_div_two
    have h3 : (x ^^^ y) / 2 = x / 2 ^^^ y / 2 := Nat.xor_div_two
    have m1 : (x &&& y) % 2 = (x % 2) &&& (y % 2) := by simpa using Nat.and_mod_two_pow (a := x) (b := y) (n := 1)
    have m2 : (x ||| y) % 2 = (x % 2) ||| (y % 2) := by simpa using Nat.or_mod_two_pow (a := x) (b := y) (n := 1)
    have m3 : (x ^^^ y) % 2 = (x % 2) ^^^ (y % 2) := by simpa using Nat.xor_mod_two_pow (a := x) (b := y) (n := 1)
    have e : (x % 2 &&& y % 2) + (x % 2 ||| y % 2) = x % 2 + y % 2 ∧ (x % 2 ||| y % 2) = (x % 2 &&& y % 2) + (x % 2 ^^^ y % 2) := by
      rcases Nat.mod_two_eq_zero_or_one x with a | a <;> rcases Nat.mod_two_eq_zero_or_one y with b | b <;> simp [a, b]
    omega
theorem bits_split (a b : Int) (a1 : -134217728 ≤ a) (a2 : a < 134217728) (b1 : -134217728 ≤ b) (b2 : b < 134217728) :
    bits .and .i64 a b + bits .or .i64 a b = a + b ∧ bits .or .i64 a b = bits .and .i64 a b + bits .xor .i64 a b ∧ -268435456 ≤ bits .and .i64 a b ∧ bits .and .i64 a b < 268435456 ∧ -268435456 ≤ bits .or .i64 a b ∧ bits .or .i64 a b < 268435456 ∧ -536870912 ≤ bits .xor .i64 a b ∧ bits .xor .i64 a b < 536870912 := by
  have hX : ((BitVec.ofInt 64 a).toNat : Int) = a % 18446744073709551616 := by
    rw [BitVec.toNat_ofInt]; exact Int.toNat_of_nonneg (Int.emod_nonneg _ (by decide))
  have hY : ((BitVec.ofInt 64 b).toNat : Int) = b % 18446744073709551616 := by
    rw [BitVec.toNat_ofInt]; exact Int.toNat_of_nonneg (Int.emod_nonneg _ (by decide))
  have e1 : bits .and .i64 a b = IntKind.i64.wrap (((BitVec.ofInt 64 a).toNat &&& (BitVec.ofInt 64 b).toNat : Nat) : Int) := by
    show IntKind.i64.wrap ((BitVec.ofInt 64 a &&& BitVec.ofInt 64 b).toNat : Int) = _
    rw [BitVec.toNat_and]
  have e2 : bits .or .i64 a b = IntKind.i64.wrap (((BitVec.ofInt 64 a).toNat ||| (BitVec.ofInt 64 b).toNat : Nat) : Int) := by
    show IntKind.i64.wrap ((BitVec.ofInt 64 a ||| BitVec.ofInt 64 b).toNat : Int) = _
    rw [BitVec.toNat_or]
  have e3 : bits .xor .i64 a b = IntKind.i64.wrap (((BitVec.ofInt 64 a).toNat ^^^ (BitVec.ofInt 64 b).toNat : Nat) : Int) := by
    show IntKind.i64.wrap ((BitVec.ofInt 64 a ^^^ BitVec.ofInt 64 b).toNat : Int) = _
    rw [BitVec.toNat_xor]
  have l1 := (BitVec.ofInt 64 a).isLt
  have l2 := (BitVec.ofInt 64 b).isLt
  rw [e1, e2, e3, IntKind.wrap_i64, IntKind.wrap_i64, IntKind.wrap_i64]
  clear e1 e2 e3
  generalize (BitVec.ofInt 64 a).toNat = x at *
  generalize (BitVec.ofInt 64 b).toNat = y at *
  obtain ⟨s1, s2⟩ := xor_split 64 x y l1 l2
  have u1 : x &&& y ≤ x := Nat.and_le_left
  have u2 : x &&& y ≤ y := Nat.and_le_right
  have u3 : x ||| y < 2 ^ 64 := Nat.or_lt_two_pow l1 l2
  generalize x &&& y = A at *
  generalize x ||| y = O at *
  generalize x ^^^ y = X at *
  by_cases ha : 0 ≤ a <;> by_cases hb : 0 ≤ b
  all_goals (refine ⟨?_, ?_, ?_, ?_, ?_, ?_, ?_, ?_⟩ <;> omega)
/-- the law's own 'op': the number of an answer -/
theorem lop (n a b : Int) (w : World) : Calls Try.prog 37 #[.int .i64 n, .int .i64 a, .int .i64 b] w fun e w' => e = .returned (.int .i64 (opT n a b).2.1) ∧ Ext w w' := by
  go_enter Try.func37, Try.ntmps37
  go_wp2_with fail
  refine (opv rfl _).mono ?_
  rintro e w1 ⟨rfl, x1⟩
  go_wp2_with fail
  go_ret
  exact ⟨rfl, x1.alloc _⟩
/-- the laws' own truths -/
theorem ltruth {n a b : Int} {t : Bool} (w : World) (ga gb : Nat) (ca : w.cell? ⟨ga, 0, none⟩ = some (.int .i64 a)) (cb : w.cell? ⟨gb, 0, none⟩ = some (.int .i64 b)) (hT : opT n a b = truthT t) :
    Calls Try.prog 38 #[.int .i64 n, .pointer (some ⟨ga, 0, none⟩), .pointer (some ⟨gb, 0, none⟩)] w fun e w' => e = .returned (.bool t) ∧ Ext w w' := by
  have HT := Lib.hid hT
  clear hT
  cases t
  all_goals
    go_enter Try.func38, Try.ntmps38
    go_wp2_with fail
    refine (opv HT.out _).mono ?_
    rintro e w1 ⟨rfl, x1⟩
    go_wp2_with fail
    go_ret
    exact ⟨rfl, x1.alloc _⟩
theorem lis {n a b : Int} {t : Bool} (w : World) (hT : opT n a b = truthT t) :
    Calls Try.prog 39 #[.int .i64 n, .int .i64 a, .int .i64 b] w fun e w' => e = .returned (.bool t) ∧ Ext w w' := by
  have HT := Lib.hid hT
  clear hT
  cases t
  all_goals
    go_enter Try.func39, Try.ntmps39
    go_wp2_with fail
    refine (opv HT.out _).mono ?_
    rintro e w1 ⟨rfl, x1⟩
    go_wp2_with fail
    go_ret
    exact ⟨rfl, x1.alloc _⟩
theorem lno {n a b : Int} {t : Bool} (w : World) (hT : opT n a b = truthT t) :
    Calls Try.prog 40 #[.int .i64 n, .int .i64 a, .int .i64 b] w fun e w' => e = .returned (.bool (!t)) ∧ Ext w w' := by
  have HT := Lib.hid hT
  clear hT
  cases t
  all_goals
    go_enter Try.func40, Try.ntmps40
    go_wp2_with fail
    refine (opv HT.out _).mono ?_
    rintro e w1 ⟨rfl, x1⟩
    go_wp2_with fail
    go_ret
    exact ⟨rfl, x1.alloc _⟩

set_option maxRecDepth 100000 in
set_option maxHeartbeats 8000000 in
theorem laws_core (p q a b A O X s : Int) (w : World) (x1 : -9223372036854775808 ≤ p) (x2 : p ≤ 9223372036854775807) (y1 : -9223372036854775808 ≤ q) (y2 : q ≤ 9223372036854775807)
    (ea : p % 268435456 - 134217728 = a) (eb : q % 268435456 - 134217728 = b) (a1 : -134217728 ≤ a) (a2 : a < 134217728) (b1 : -134217728 ≤ b) (b2 : b < 134217728)
    (k1 : (opT 1 a b).2.1 = a + b) (k2 : (opT 2 (a + b) b).2.1 = a) (k12 : (opT 12 a b).2.1 = A) (k13 : (opT 13 a b).2.1 = O) (k1' : (opT 1 A O).2.1 = a + b) (k2' : (opT 2 O A).2.1 = X) (k14 : (opT 14 a b).2.1 = X)
    (h6 : opT 6 a b = truthT (decide (a < b))) (h7 : opT 7 a b = truthT (decide (b < a))) (h8 : opT 8 a b = truthT (decide (a ≤ b))) (h9 : opT 9 a b = truthT (decide (b ≤ a))) (h10 : opT 10 a b = truthT (a == b)) (h11 : opT 11 a b = truthT (a != b))
    (t78 : (decide (a ≤ b) == decide (b < a)) = false) (t96 : (decide (b ≤ a) == decide (a < b)) = false) (t1110 : ((a != b) == (a == b)) = false)
    (hz : b = 0 ∧ opT 4 a 0 = (false, 0, false) ∧ opT 5 a 0 = (false, 0, false) ∨ b ≠ 0 ∧ ∃ Q R M : Int, (opT 4 a b).2.1 = Q ∧ (opT 5 a b).2.1 = R ∧ Q * b + R = a ∧ -1000000000 ≤ Q * b ∧ Q * b ≤ 1000000000 ∧ (if b < -b then -b else b) = M ∧ -M < R ∧ R < M ∧ (R = 0 ∨ R ≠ 0 ∧ decide (R < 0) = decide (b < 0))) :
    Calls Try.prog 11 #[.int .i64 p, .int .i64 q] w fun e w' => e = .returned (.bool true) ∧ Below w.heap.size w w' := by
  have H6 := Lib.hid h6
  have H7 := Lib.hid h7
  have H8 := Lib.hid h8
  have H9 := Lib.hid h9
  have H10 := Lib.hid h10
  have H11 := Lib.hid h11
  clear h6 h7 h8 h9 h10 h11
  go_enter Try.func11, Try.ntmps11
  go_wp2_with (go_at_call 19; refine (place _ _ _ (by omega) (by omega) (by omega) (by omega)).mono ?_; rintro e w' ⟨rfl, rfl⟩)
  refine wp_name fun W1 hW1 => ?_
  have B1 : Blk W1 w.heap.size 3 #[.int .i64 a] := by rw [hW1]; exact (Blk.new _ _ _).alloc _
  have B2 : Blk W1 (w.heap.size + 1) 3 #[.int .i64 b] := by rw [hW1]; have h := Blk.new (w.alloc (.cells #[.int .i64 a] 3)) 3 #[.int .i64 b]; rwa [World.size_alloc] at h
  have E1 : Ext w W1 := by rw [hW1]; exact ((Ext.refl _).alloc _).alloc _
  clear hW1
  obtain ⟨c1, f1, z1⟩ := B1.rules
  obtain ⟨c2, f2, z2⟩ := B2.rules
  refine wp_region_ext (by kernel_rfl) (by kernel_rfl) ?_
  repeat (go_big_quiet_step ((go_at_call 37; exact calls_ext (lop _ _ _ _))))
  refine wpQuiet_nil ?_
  rintro W2 ⟨x2, hW2⟩
  replace B1 : Blk W2 w.heap.size 3 _ := B1.ext ⟨x2, hW2⟩
  replace B2 : Blk W2 (w.heap.size + 1) 3 _ := B2.ext ⟨x2, hW2⟩
  have E2 : Ext w W2 := E1.trans ⟨x2, hW2⟩
  clear c1 f1 z1 c2 f2 z2 hW2 E1
  obtain ⟨c1, f1, z1⟩ := B1.rules
  obtain ⟨c2, f2, z2⟩ := B2.rules
  have m1 := Lib.hid (fun x => (show (ext W2 x).cell? ⟨w.heap.size, 0, none⟩ = some (.int .i64 a) from by rw [cell_ext _ _ _ _ z1]; exact c1 0))
  have m2 := Lib.hid (fun x => (show (ext W2 x).cell? ⟨w.heap.size + 1, 0, none⟩ = some (.int .i64 b) from by rw [cell_ext _ _ _ _ z2]; exact c2 0))
  go_wp2_with fail
  refine wp_region_ext (by kernel_rfl) (by kernel_rfl) ?_
  repeat (go_big_quiet_step ((first | (go_at_call 38; with_reducible exact calls_ext (ltruth _ _ _ (m1.out _) (m2.out _) H6.out)) | (go_at_call 38; with_reducible exact calls_ext (ltruth _ _ _ (m1.out _) (m2.out _) H7.out)) | (go_at_call 38; with_reducible exact calls_ext (ltruth _ _ _ (m1.out _) (m2.out _) H8.out)) | (go_at_call 38; with_reducible exact calls_ext (ltruth _ _ _ (m1.out _) (m2.out _) H9.out)) | (go_at_call 38; with_reducible exact calls_ext (ltruth _ _ _ (m1.out _) (m2.out _) H10.out)) | (go_at_call 38; with_reducible exact calls_ext (ltruth _ _ _ (m1.out _) (m2.out _) H11.out)))))
  refine wpQuiet_nil ?_
  rintro W3 ⟨x3, hW3⟩
  replace B1 : Blk W3 w.heap.size 3 _ := B1.ext ⟨x3, hW3⟩
  replace B2 : Blk W3 (w.heap.size + 1) 3 _ := B2.ext ⟨x3, hW3⟩
  have E3 : Ext w W3 := E2.trans ⟨x3, hW3⟩
  clear c1 f1 z1 c2 f2 z2 hW3 E2 m1 m2 t78 t96 t1110 k1 k2 k12 k13 k1' k2' k14 H6 H7 H8 H9 H10 H11
  obtain ⟨c1, f1, z1⟩ := B1.rules
  obtain ⟨c2, f2, z2⟩ := B2.rules
  rcases hz with ⟨hb, o4, o5⟩ | ⟨hb, Q, R, M, o4, o5, hQR, g1, g2, hM, g3, g4, hs⟩
  · have e0 : (b == 0) = true := by simp [hb]
    have O4 := Lib.hid o4
    have O5 := Lib.hid o5
    clear o4 o5 hb
    go_wp2_with fail
    refine (opv O4.out _).mono ?_
    rintro e w4 ⟨rfl, x4⟩
    replace B1 := B1.ext x4
    clear c1 f1 z1 c2 f2 z2
    obtain ⟨c1, f1, z1⟩ := B1.rules
    go_wp2_with fail
    refine (opv O5.out _).mono ?_
    rintro e w5 ⟨rfl, x5⟩
    go_wp2_with fail
    refine (awake _).mono ?_
    rintro e w6 ⟨rfl, x6⟩
    go_wp2_with fail
    go_ret
    exact ⟨rfl, (((((E3.trans x4).alloc _).trans x5).alloc _).trans x6).below⟩
  · have e0 : (b == 0) = false := by simp [hb]
    have eQ : (Q * b + R == a) = true := by simp [hQR]
    have HQ := Lib.hid hQR
    clear hQR
    have sb : -2000000000 ≤ Q * b + R ∧ Q * b + R ≤ 2000000000 := by omega
    obtain ⟨s1, s2⟩ := sb
    go_wp2_with fail
    refine (lop _ _ _ _).mono ?_
    rintro e w4 ⟨rfl, x4⟩
    replace B1 := B1.ext x4
    replace B2 := B2.ext x4
    have E4 := E3.trans x4
    clear c1 f1 z1 c2 f2 z2
    obtain ⟨c1, f1, z1⟩ := B1.rules
    obtain ⟨c2, f2, z2⟩ := B2.rules
    rw [o5]
    rcases hs with hs | ⟨hs, hsg⟩
    · subst hs
      have eQ' : (Q * b == a) = true := by simpa using eQ
      go_wp2_with fail
      refine wp_region_ext (by kernel_rfl) (by kernel_rfl) ?_
      repeat (go_big_quiet_step ((first | (go_at_call 37; exact calls_ext (lop _ _ _ _)) | (go_at_call 36; exact calls_ext (awake _)))))
      refine wpQuiet_nil ?_
      rintro _ ⟨x, rfl⟩
      go_wp2
      go_ret
      exact ⟨rfl, (E4.ext _).below⟩
    · have er : (R == 0) = false := by simp [hs]
      go_wp2_with fail
      refine wp_region_ext (by kernel_rfl) (by kernel_rfl) ?_
      repeat (go_big_quiet_step ((first | (go_at_call 37; exact calls_ext (lop _ _ _ _)) | (go_at_call 36; exact calls_ext (awake _)))))
      refine wpQuiet_nil ?_
      rintro _ ⟨x, rfl⟩
      go_wp2
      go_ret
      exact ⟨rfl, (E4.ext _).below⟩


theorem opT6 (a b : Int) (ha : fitsB a = true) (hb : fitsB b = true) : opT 6 a b = truthT (decide (a < b)) := by rw [opT_of ha hb]; unfold numT; rfl
theorem opT7 (a b : Int) (ha : fitsB a = true) (hb : fitsB b = true) : opT 7 a b = truthT (decide (b < a)) := by rw [opT_of ha hb]; unfold numT; rfl
theorem opT8 (a b : Int) (ha : fitsB a = true) (hb : fitsB b = true) : opT 8 a b = truthT (decide (a ≤ b)) := by rw [opT_of ha hb]; unfold numT; rfl
theorem opT9 (a b : Int) (ha : fitsB a = true) (hb : fitsB b = true) : opT 9 a b = truthT (decide (b ≤ a)) := by rw [opT_of ha hb]; unfold numT; rfl
theorem opT10 (a b : Int) (ha : fitsB a = true) (hb : fitsB b = true) : opT 10 a b = truthT (a == b) := by rw [opT_of ha hb]; unfold numT; rfl
theorem opT11 (a b : Int) (ha : fitsB a = true) (hb : fitsB b = true) : opT 11 a b = truthT (a != b) := by rw [opT_of ha hb]; unfold numT; rfl
theorem opT12 (a b : Int) (ha : fitsB a = true) (hb : fitsB b = true) : opT 12 a b = wholeT (bits .and .i64 a b) := by rw [opT_of ha hb]; unfold numT; rfl
theorem opT13 (a b : Int) (ha : fitsB a = true) (hb : fitsB b = true) : opT 13 a b = wholeT (bits .or .i64 a b) := by rw [opT_of ha hb]; unfold numT; rfl
theorem opT14 (a b : Int) (ha : fitsB a = true) (hb : fitsB b = true) : opT 14 a b = wholeT (bits .xor .i64 a b) := by rw [opT_of ha hb]; unfold numT; rfl
theorem opT4 (a b : Int) (ha : fitsB a = true) (hb : fitsB b = true) (h : b ≠ 0) : opT 4 a b = wholeT (divQ a b) := by rw [opT_of ha hb]; unfold numT; simp [h]
theorem opT5 (a b : Int) (ha : fitsB a = true) (hb : fitsB b = true) (h : b ≠ 0) : opT 5 a b = wholeT (divR a b) := by rw [opT_of ha hb]; unfold numT; simp [h]
theorem opT45 (n a : Int) (ha : fitsB a = true) (hn : n = 4 ∨ n = 5) : opT n a 0 = (false, 0, false) := by
  rw [opT_of ha (by decide)]; rcases hn with rfl | rfl <;> rfl
theorem divQ_bd (a b : Int) (ha1 : -134217728 ≤ a) (ha2 : a < 134217728) : -134217729 ≤ divQ a b ∧ divQ a b ≤ 134217728 := by
  have h := Int.natAbs_tdiv_le_natAbs a b
  unfold divQ; split <;> omega
theorem numberLaws (a0 a1 : Int) (w0 : (Lit.int .i64 a0).wf = true) (w1 : (Lit.int .i64 a1).wf = true) (w : World) :
    Calls Try.prog 11 #[.int .i64 a0, .int .i64 a1] w fun e w' => e = .returned (.bool true) ∧ Below w.heap.size w w' := by
  obtain ⟨x1, x2⟩ := bounds_i64 w0
  obtain ⟨y1, y2⟩ := bounds_i64 w1
  obtain ⟨a, ea⟩ : ∃ a, a0 % 268435456 - 134217728 = a := ⟨_, rfl⟩
  obtain ⟨b, eb⟩ : ∃ b, a1 % 268435456 - 134217728 = b := ⟨_, rfl⟩
  have ha1 : -134217728 ≤ a := by omega
  have ha2 : a < 134217728 := by omega
  have hb1 : -134217728 ≤ b := by omega
  have hb2 : b < 134217728 := by omega
  have fa : fitsB a = true := fits_yes (by omega) (by omega)
  have fb : fitsB b = true := fits_yes (by omega) (by omega)
  obtain ⟨s1, s2, s3, s4, s5, s6, s7, s8⟩ := bits_split a b ha1 ha2 hb1 hb2
  refine laws_core a0 a1 a b (bits .and .i64 a b) (bits .or .i64 a b) (bits .xor .i64 a b) 0 w x1 x2 y1 y2 ea eb ha1 ha2 hb1 hb2 ?_ ?_ ?_ ?_ ?_ ?_ ?_
    (opT6 a b fa fb) (opT7 a b fa fb) (opT8 a b fa fb) (opT9 a b fa fb) (opT10 a b fa fb) (opT11 a b fa fb) ?_ ?_ ?_ ?_
  · rw [op1 _ _ fa fb, wholeT_in (by omega) (by omega)]
  · rw [op2 _ _ (fits_yes (by omega) (by omega)) fb, wholeT_in (by omega) (by omega)]; show a + b - b = a; omega
  · rw [opT12 _ _ fa fb, wholeT_in (by omega) (by omega)]
  · rw [opT13 _ _ fa fb, wholeT_in (by omega) (by omega)]
  · rw [op1 _ _ (fits_yes (by omega) (by omega)) (fits_yes (by omega) (by omega)), wholeT_in (by omega) (by omega)]; exact s1
  · rw [op2 _ _ (fits_yes (by omega) (by omega)) (fits_yes (by omega) (by omega)), wholeT_in (by omega) (by omega)]; show _ - _ = _; omega
  · rw [opT14 _ _ fa fb, wholeT_in (by omega) (by omega)]
  · by_cases h : a ≤ b
    · have h1 : decide (a ≤ b) = true := by simpa using h
      have h2 : decide (b < a) = false := by simp; omega
      rw [h1, h2]; rfl
    · have h1 : decide (a ≤ b) = false := by simpa using h
      have h2 : decide (b < a) = true := by simp; omega
      rw [h1, h2]; rfl
  · by_cases h : b ≤ a
    · have h1 : decide (b ≤ a) = true := by simpa using h
      have h2 : decide (a < b) = false := by simp; omega
      rw [h1, h2]; rfl
    · have h1 : decide (b ≤ a) = false := by simpa using h
      have h2 : decide (a < b) = true := by simp; omega
      rw [h1, h2]; rfl
  · cases h : (a == b) <;> simp [bne, h]
  · by_cases hb : b = 0
    · exact .inl ⟨hb, opT45 4 a fa (.inl rfl), opT45 5 a fa (.inr rfl)⟩
    · obtain ⟨d1, d2, d3⟩ := div_facts a b hb
      obtain ⟨d4, d5⟩ := divQ_bd a b ha1 ha2
      refine .inr ⟨hb, divQ a b, divR a b, if b < -b then -b else b, ?_, ?_, d1, by omega, by omega, rfl, ?_, ?_, ?_⟩
      · rw [opT4 _ _ fa fb hb, wholeT_in (by omega) (by omega)]
      · rw [opT5 _ _ fa fb hb, wholeT_in (by omega) (by omega)]
      · split <;> omega
      · split <;> omega
      · by_cases h0 : divR a b = 0
        · exact .inl h0
        · refine .inr ⟨h0, ?_⟩
          rw [Bool.eq_iff_iff]; simp only [decide_eq_true_eq]; omega
end Go.Proofs.Ytabknckaoeifhaa.NumberLaws
