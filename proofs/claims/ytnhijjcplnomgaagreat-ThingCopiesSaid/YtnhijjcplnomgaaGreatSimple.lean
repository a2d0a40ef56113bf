/-
  Contracts of package simple (chapter 15): has, Does; memory.IsFirst.
-/
import Derived.Test.YtnhijjcplnomgaaGreatSetup
namespace Go.Proofs.YtnhijjcplnomgaaGreat.World
open Go.RowKit Go.Proofs.YtnhijjcplnomgaaGreat.Plain
set_option linter.unusedVariables false
attribute [local go_sem ↓] Go.wp_at_zero Go.wp_at_succ
namespace MS
/-- a field of a value that is a thing (from 0 on) -/
def hasF (S : MS) (v : PV) (i : Int) : Bool := v.obj && (S.has v.n && (!decide (S.fmt v.n = 3) && decide (i < S.size v.n)))
end MS
section
variable {w w' w2 : World} {F F' F2 : Nat → Prop} {m : Nat} {S S' : MS} {X : MX}
set_option maxRecDepth 100000 in
set_option maxHeartbeats 2000000 in
theorem shas (h : M w F m S) (v : PV) (i : Int) : Calls Tryz.prog 47 #[.pointer (some ⟨m, 0, none⟩), val v, .int .i64 i] w fun e w' => e = .returned (.bool (S.hasF v i)) ∧ Ext w w' := by
  obtain ⟨bt, R⟩ := h.rd
  obtain ⟨o, n⟩ := v
  have c0 := R.c0
  have lt := R.lt
  have C1 := Lib.hid (fun W [IsExt w W] => R.has W n)
  have C2 := Lib.hid (fun W [IsExt w W] => R.fmt W n)
  have C3 := Lib.hid (fun W [IsExt w W] => R.size W n)
  have E : Hid (S.hasF ⟨o, n⟩ i = (o && (S.has n && (!decide (S.fmt n = 3) && decide (i < S.size n))))) := Lib.hid rfl
  clear h R
  unfold val
  generalize S.has n = hh at *
  generalize S.fmt n = f at *
  generalize S.size n = s at *
  have hf3 : f = 3 ∨ (f == 3) = false := by by_cases hf : f = 3; exact .inl hf; exact .inr (beq_eq_false_iff_ne.2 hf)
  cases o
  · go_enter Tryz.func47, Tryz.ntmps47
    go_wp2_with fail
    refine wp_region_ext (by kernel_rfl) (by kernel_rfl) ?_
    repeat (go_big_quiet_step (fail))
    refine wpQuiet_nil ?_
    rintro W ⟨x, rfl⟩
    go_wp2
    go_ret
    exact ⟨ret_bool (by rw [E.out]; rfl), is_ext _ _⟩
  · cases hh
    · go_enter Tryz.func47, Tryz.ntmps47
      go_wp2_with fail
      refine wp_region_ext (by kernel_rfl) (by kernel_rfl) ?_
      repeat (go_big_quiet_step ((first | (go_at_call 181; exact calls_ext (C1.out _)))))
      refine wpQuiet_nil ?_
      rintro W ⟨x, rfl⟩
      go_wp2
      go_ret
      exact ⟨ret_bool (by rw [E.out]; rfl), is_ext _ _⟩
    · rcases hf3 with rfl | hf
      · go_enter Tryz.func47, Tryz.ntmps47
        go_wp2_with fail
        refine wp_region_ext (by kernel_rfl) (by kernel_rfl) ?_
        repeat (go_big_quiet_step ((first | (go_at_call 181; exact calls_ext (C1.out _)) | (go_at_call 180; exact calls_ext (C2.out _)))))
        refine wpQuiet_nil ?_
        rintro W ⟨x, rfl⟩
        go_wp2
        go_ret
        exact ⟨ret_bool (by rw [E.out]; simp), is_ext _ _⟩
      · have hf' := beq_eq_false_iff_ne.1 hf
        have hb : (f != 3) = true := by simpa using hf'
        go_enter Tryz.func47, Tryz.ntmps47
        go_wp2_with fail
        refine wp_region_ext (by kernel_rfl) (by kernel_rfl) ?_
        repeat (go_big_quiet_step ((first | (go_at_call 181; exact calls_ext (C1.out _)) | (go_at_call 180; exact calls_ext (C2.out _)) | (go_at_call 191; exact calls_ext (C3.out _)))))
        refine wpQuiet_nil ?_
        rintro W ⟨x, rfl⟩
        go_wp2
        go_ret
        exact ⟨ret_bool (by rw [E.out]; simp [hf']), is_ext _ _⟩
set_option maxRecDepth 100000 in
set_option maxHeartbeats 1000000 in
theorem misfirst (h : M w F m S) (n : Int) : Calls Tryz.prog 54 #[.pointer (some ⟨m, 0, none⟩), .int .i64 n] w fun e w' => e = .returned (.bool (decide (0 ≤ n ∧ n < 23))) ∧ Ext w w' := by
  obtain ⟨bt, R⟩ := h.rd
  have C0 := Lib.hid R.c0
  have LT := Lib.hid R.lt
  have CS := Lib.hid (fun W k => tspecial (w := W) k (.pointer (some ⟨bt, 0, none⟩)))
  clear h R
  go_enter Tryz.func54, Tryz.ntmps54
  go_wp2_with fail
  go_loopw [6] (fun kv wr => ∃ k : Nat, k ≤ 23 ∧ kv = .int .i64 k ∧ (∀ j : Nat, j < k → (j : Int) ≠ n) ∧ Ext w wr) (fun kv _ => 23 - (intOf kv).toNat)
  case atStart => exact ⟨0, by omega, rfl, fun j hj => absurd hj (by omega), Ext.refl _⟩
  case round =>
    obtain ⟨k, hk, rfl, hne, xk⟩ := hrel
    have c0 := (xk.below.cell (p := ⟨m, 0, none⟩) LT.out).trans C0.out
    have lt : m < wr.heap.size := Nat.lt_of_lt_of_le LT.out xk.below.size
    have HN := Lib.hid hne
    have XK := Lib.hid xk
    by_cases hlt : k < 23
    · have kI : (k : Int) < 23 := by omega
      clear hne xk
      by_cases e : (k : Int) = n
      · have en : decide (0 ≤ n ∧ n < 23) = true := decide_eq_true (by omega)
        have be : ((k : Int) == n) = true := beq_iff_eq.2 e
        go_wp2_with (go_at_call 192; refine (CS.out _ _).mono ?_; rintro e w' ⟨rfl, x'⟩)
        go_ret
        exact ⟨ret_bool en.symm, XK.out.trans x'⟩
      · have be : ((k : Int) == n) = false := beq_eq_false_iff_ne.2 e
        go_wp2_with (go_at_call 192; refine (CS.out _ _).mono ?_; rintro e w' ⟨rfl, x'⟩)
        go_roundw
        case rel => exact ⟨k + 1, by omega, by go_num, fun j hj => by
          by_cases hjk : j = k
          · subst hjk; exact e
          · exact HN.out j (by omega), XK.out.trans x'⟩
        case measure => simp [intOf]; omega
    · obtain rfl : k = 23 := by omega
      have en : decide (0 ≤ n ∧ n < 23) = false := decide_eq_false (fun c => by
        obtain ⟨q, rfl⟩ := Int.eq_ofNat_of_zero_le c.1
        exact hne q (by omega) rfl)
      clear hne xk
      go_wp2_with fail
      go_ret
      exact ⟨ret_bool en.symm, XK.out⟩
/-! ### which do -/
def doesB (op : Int) : Bool := decide (1 ≤ op ∧ op ≤ 10) || (decide (op = 13) || decide (18 ≤ op ∧ op ≤ 22))
set_option maxRecDepth 100000 in
set_option maxHeartbeats 1000000 in
theorem sdoes (w : World) (op : Int) (hop : op = 0 ∨ op = 1 ∨ op = 5 ∨ op = 6 ∨ op = 7 ∨ op = 11 ∨ op = 20 ∨ op = 22) : Calls Tryz.prog 52 #[.int .i64 op] w fun e w' => e = .returned (.bool (doesB op)) ∧ Ext w w' := by
  rcases hop with rfl | rfl | rfl | rfl | rfl | rfl | rfl | rfl
  all_goals
    go_enter Tryz.func52, Tryz.ntmps52
    go_wp2_with fail
    first
      | (go_ret; exact ⟨rfl, Ext.refl _⟩)
      | (refine wp_region_ext (by kernel_rfl) (by kernel_rfl) ?_
         repeat (go_big_quiet_step (fail))
         refine wpQuiet_nil ?_
         rintro W ⟨x, rfl⟩
         go_wp2
         go_ret
         exact ⟨rfl, is_ext _ _⟩)
set_option maxRecDepth 100000 in
theorem awake15 (w : World) : Calls Tryz.prog 25 #[] w fun e w' => e = .returned (.bool true) ∧ Ext w w' := by
  have C1 : Hid (∀ W, Calls Tryz.prog 52 #[.int .i64 1] W fun e w' => e = .returned (.bool true) ∧ Ext W w') := Lib.hid (fun W => sdoes W 1 (by omega))
  have C2 : Hid (∀ W, Calls Tryz.prog 52 #[.int .i64 22] W fun e w' => e = .returned (.bool true) ∧ Ext W w') := Lib.hid (fun W => sdoes W 22 (by omega))
  have C3 : Hid (∀ W, Calls Tryz.prog 52 #[.int .i64 11] W fun e w' => e = .returned (.bool false) ∧ Ext W w') := Lib.hid (fun W => sdoes W 11 (by omega))
  have C4 : Hid (∀ W, Calls Tryz.prog 52 #[.int .i64 0] W fun e w' => e = .returned (.bool false) ∧ Ext W w') := Lib.hid (fun W => sdoes W 0 (by omega))
  go_enter Tryz.func25, Tryz.ntmps25
  go_wp2_with fail
  refine (C1.out _).mono ?_
  rintro e w1 ⟨rfl, x1⟩
  go_wp2_with fail
  refine (C2.out _).mono ?_
  rintro e w2 ⟨rfl, x2⟩
  go_wp2_with fail
  refine (C3.out _).mono ?_
  rintro e w3 ⟨rfl, x3⟩
  go_wp2_with fail
  refine (C4.out _).mono ?_
  rintro e w4 ⟨rfl, x4⟩
  go_wp2_with fail
  go_ret
  exact ⟨rfl, ((x1.trans x2).trans x3).trans x4⟩
end
end Go.Proofs.YtnhijjcplnomgaaGreat.World
