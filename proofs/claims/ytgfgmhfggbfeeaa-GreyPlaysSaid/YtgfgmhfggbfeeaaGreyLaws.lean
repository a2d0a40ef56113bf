/-
  The walks of the laws of chapter 9: GreyOrder, GreyPlays, GreyMixed.
-/
import Derived.Test.YtgfgmhfggbfeeaaGrey
import Derived.Test.YtgfgmhfggbfeeaaWord
import Derived.OpenShut
import Derived.ProofKit
namespace Go.Proofs.Ytgfgmhfggbfeeaa.GreyLaws
open Go.RowKit Go.Proofs.Ytgfgmhfggbfeeaa.Plain Go.Proofs.Ytgfgmhfggbfeeaa.Word Go.Proofs.Ytgfgmhfggbfeeaa.Grey
set_option linter.unusedVariables false

theorem awake (w : World) : Calls Try.prog 40 #[] w fun e w' => e = .returned (.bool true) ∧ Ext w w' := by
  go_enter Try.func40, Try.ntmps40
  go_wp2_with fail
  refine (new_stk _ _).mono ?_
  rintro e w1 ⟨rfl, s1, x1⟩
  rw [show (clampM 1).toNat = 1 from rfl] at s1
  go_wp2_with fail
  refine (push_y s1 (by decide) _).mono ?_
  rintro e w2 ⟨rfl, s2, k2⟩
  go_wp2_with fail
  refine (push_n s2 (by decide) _).mono ?_
  rintro e w3 ⟨rfl, s3, k3⟩
  go_wp2_with fail
  refine (over_stk s3).mono ?_
  rintro e w4 ⟨rfl, rfl⟩
  go_wp2_with fail
  refine (len_stk s3).mono ?_
  rintro e w4 ⟨rfl, rfl⟩
  go_wp2_with fail
  go_ret
  exact ⟨rfl, (((Keep.of_ext x1 _).trans (k2.trans k3))).toExt (fun k hk => by intro h; omega)⟩
theorem take_min_snoc (zs : List Int) (k K : Nat) (h : k < K) (hz : k < zs.length) : zs.take (min (k + 1) K) = zs.take (min k K) ++ [zs.getD k 0] := by
  rw [show min (k + 1) K = k + 1 from by omega, show min k K = k from by omega, List.take_succ_eq_append_getElem hz]
  simp [List.getD, hz]
theorem take_min_same (zs : List Int) (k K : Nat) (h : ¬ k < K) : zs.take (min (k + 1) K) = zs.take (min k K) := by
  rw [show min (k + 1) K = K from by omega, show min k K = K from by omega]
set_option maxRecDepth 100000 in
set_option maxHeartbeats 4000000 in
theorem order_core (a0 : Int) (a1 : Option Addr) (len cap : Nat) (zs : List Int) (w : World) (x1 : -9223372036854775808 ≤ a0) (x2 : a0 ≤ 9223372036854775807)
    (hr : ∀ i, i < len → ∃ b off, a1 = some ⟨b, off, none⟩ ∧ b < w.heap.size ∧ w.cell? ⟨b, off + i, none⟩ = some (.int .i64 (zs.getD i 0))) (hz : len ≤ zs.length) (hl : len ≤ 9223372036854775807)
    (K n T : Nat) (M : Int) (hM : (if a0 % 130 < 1 then 1 else a0 % 130) = M) (hK : (if 100 < M then 100 else M) = (K : Int)) (hcl : (clampM (a0 % 130)).toNat = K) (K1 : 1 ≤ K) (K2 : K ≤ 100)
    (hn : (if (150 : Int) < (len : Int) then (150 : Int) else (len : Int)) = (n : Int)) (hn0 : (if 150 < len then (150 : Int) else (len : Int)) = (n : Int)) (n1 : n ≤ len) (n2 : n ≤ 150) (hT : (if K < n then (K : Int) else (n : Int)) = (T : Int)) (hT0 : (if (K : Int) < (n : Int) then (K : Int) else (n : Int)) = (T : Int)) (hT' : T = min n K) :
    Calls Try.prog 11 #[.int .i64 a0, .slice a1 len cap] w fun e w' => e = .returned (.bool true) ∧ Below w.heap.size w w' := by
  have HR := Lib.hid hr
  have HT := Lib.hid hT'
  clear hr hT'
  go_enter Try.func11, Try.ntmps11
  go_wp2_with (go_at_call 16; refine (place _ _ _ (by omega) (by omega) (by omega) (by omega)).mono ?_; rintro e w' ⟨rfl, rfl⟩)
  refine (new_stk _ _).mono ?_
  rintro e w1 ⟨rfl, s1, x1⟩
  rw [hcl] at s1
  go_wp2_with fail
  go_loopw [9] (fun i wr => ∃ k : Nat, k ≤ n ∧ i = .int .i64 k ∧ Stk wr w.heap.size (zs.take (min k K)) K (decide (K < k)) ∧ Ext w wr) (fun i _ => n - (intOf i).toNat)
  case atStart => exact ⟨0, Nat.zero_le _, rfl, by simpa using s1, x1⟩
  case round =>
    obtain ⟨k, hk, rfl, hs, hx⟩ := hrel
    by_cases hlt : k < n
    · obtain ⟨b, off, rfl, hb, hc⟩ := HR.out k (by omega)
      have hc' := hx.below.cell (p := ⟨b, off + k, none⟩) hb
      rw [hc] at hc'
      clear hc
      by_cases hkK : k < K
      · have d1 : decide ((k : Int) < (K : Int)) = true := by simpa using hkK
        have d2 : decide ((K : Int) ≤ (k : Int)) = false := by simp; omega
        have d3 : decide (K < k) = false := by simp; omega
        have d4 : decide (K < k + 1) = false := by simp; omega
        rw [d3] at hs
        go_wp2_with fail
        refine (push_y hs (by simp; omega) _).mono ?_
        rintro e w2 ⟨rfl, s2, k2⟩
        go_wp2_with fail
        refine (over_stk s2).mono ?_
        rintro e w3 ⟨rfl, rfl⟩
        go_wp2_with fail
        go_roundw
        case rel => exact ⟨k + 1, by omega, by go_num, by rw [take_min_snoc zs k K hkK (by omega), d4]; exact s2, ((Keep.of_ext hx _).trans k2).toExt (fun j hj => by intro h; omega)⟩
        case measure => simp [intOf]; omega
      · have d1 : decide ((k : Int) < (K : Int)) = false := by simpa using hkK
        have d1' : decide (k < K) = false := by simpa using hkK
        have d2 : decide (K ≤ k) = true := by simp; omega
        have d4 : decide (K < k + 1) = true := by simp; omega
        go_wp2_with fail
        refine (push_n hs (by simp; omega) _).mono ?_
        rintro e w2 ⟨rfl, s2, k2⟩
        go_wp2_with fail
        refine (over_stk s2).mono ?_
        rintro e w3 ⟨rfl, rfl⟩
        go_wp2_with fail
        go_roundw
        case rel => exact ⟨k + 1, by omega, by go_num, by rw [take_min_same zs k K hkK, d4]; exact s2, ((Keep.of_ext hx _).trans k2).toExt (fun j hj => by intro h; omega)⟩
        case measure => simp [intOf]; omega
    · have hkn : k = n := by omega
      subst hkn
      have HT' := HT.out
      rw [← HT'] at hs
      clear HT HT'
      go_wp2_with fail
      have tb : T ≤ len := by omega
      go_loopw [10] (fun i wr => ∃ j : Nat, j ≤ T ∧ i = .int .i64 ((j : Int) - 1) ∧ Stk wr w.heap.size (zs.take j) K (decide (K < k)) ∧ Ext w wr) (fun i _ => (intOf i + 1).toNat)
      case atStart => exact ⟨T, Nat.le_refl _, rfl, hs, hx⟩
      case round =>
        obtain ⟨j, hj, rfl, hs, hx⟩ := hrel
        rcases j with _ | j
        · have e0 : (((0 : Nat) : Int) - 1) = -1 := rfl
          rw [e0]
          go_wp2_with fail
          refine (clear_stk hs).mono ?_
          rintro e w2 ⟨rfl, s2, k2⟩
          rw [List.take_zero] at s2
          go_wp2_with fail
          refine (pop_n s2).mono ?_
          rintro e w3 ⟨rfl, rfl⟩
          go_wp2_with fail
          refine (over_stk s2).mono ?_
          rintro e w3 ⟨rfl, rfl⟩
          go_wp2_with fail
          refine (len_stk s2).mono ?_
          rintro e w3 ⟨rfl, rfl⟩
          go_wp2_with fail
          refine (awake _).mono ?_
          rintro e w3 ⟨rfl, x3⟩
          go_wp2_with fail
          go_ret
          exact ⟨rfl, ((((Keep.of_ext hx _).trans k2).toExt (fun j hj => by intro h; omega)).trans x3).below⟩
        · obtain ⟨b, off, rfl, hb, hc⟩ := HR.out j (by omega)
          have hc' := hx.below.cell (p := ⟨b, off + j, none⟩) hb
          rw [hc] at hc'
          rw [List.take_succ_eq_append_getElem (by omega)] at hs
          rw [show (((j + 1 : Nat) : Int) - 1) = (j : Int) from by omega]
          have hge : zs.getD j 0 = zs[j]'(by omega) := by simp [List.getD, show j < zs.length by omega]
          rw [hge] at hc' hc
          go_wp2_with fail
          refine (pop_y hs).mono ?_
          rintro e w2 ⟨rfl, s2, k2⟩
          have x2 : Ext w w2 := ((Keep.of_ext hx _).trans k2).toExt (fun j hj => by intro h; omega)
          have hc2 := x2.below.cell (p := ⟨b, off + j, none⟩) hb
          rw [hc] at hc2
          clear hc hc'
          go_wp2_with fail
          refine (over_stk s2).mono ?_
          rintro e w3 ⟨rfl, rfl⟩
          go_wp2_with fail
          go_roundw
          case rel => exact ⟨j, by omega, by go_num, s2, x2⟩
          case measure => simp [intOf]

/-- a slice of integers that came in: what the walk is told -/
def Row (k : IntKind) (w : World) (a : Option Addr) (len cap : Nat) (zs : List Int) : Prop :=
  (a = none ∧ len = 0 ∧ cap = 0 ∧ zs = []) ∨
  ∃ x, a = some x ∧ len ≤ cap ∧ cap ≤ maxLen ∧ zs.length = cap ∧ (∀ i, i < zs.length → w.cell? (x.add i) = some (.int k (zs.getD i 0))) ∧ ∀ n ∈ zs, (Lit.int k n).wf = true
theorem Row.reads {k : IntKind} {w : World} {a : Option Addr} {len cap : Nat} {zs : List Int} (h : Row k w a len cap zs) :
    (∀ i, i < len → ∃ b off, a = some ⟨b, off, none⟩ ∧ b < w.heap.size ∧ w.cell? ⟨b, off + i, none⟩ = some (.int k (zs.getD i 0))) ∧ len ≤ zs.length ∧ len ≤ 9223372036854775807 ∧ ∀ n ∈ zs, (Lit.int k n).wf = true := by
  rcases h with ⟨rfl, rfl, rfl, rfl⟩ | ⟨x, rfl, hl, hm, hz, hcell, hwz⟩
  · exact ⟨fun i hi => absurd hi (by omega), by simp, by omega, by simp⟩
  · unfold maxLen at hm
    refine ⟨fun i hi => ?_, by omega, by omega, hwz⟩
    obtain ⟨b, off, spot⟩ := x
    have hc := hcell i (by omega)
    have h0 := hcell 0 (by omega)
    have hspot : spot = none := by simpa [Addr.add] using World.cell?_spot h0
    subst hspot
    have e : (⟨b, off, none⟩ : Addr).add i = ⟨b, off + i, none⟩ := by unfold Addr.add; split <;> simp_all
    rw [e] at hc
    refine ⟨b, off, rfl, ?_, hc⟩
    rcases Nat.lt_or_ge b w.heap.size with hlt | hge
    · exact hlt
    · simp [World.cell?, Array.getElem?_eq_none hge] at hc
theorem greyOrder (a0 : Int) (a1 : Option Addr) (len1 cap1 : Nat) (z1 : List Int) (w : World) (w0 : (Lit.int .i64 a0).wf = true) (w1 : Row .i64 w a1 len1 cap1 z1) :
    Calls Try.prog 11 #[.int .i64 a0, .slice a1 len1 cap1] w fun e w' => e = .returned (.bool true) ∧ Below w.heap.size w w' := by
  obtain ⟨x1, x2⟩ := bounds_i64 w0
  obtain ⟨hr, hz, hl, _⟩ := w1.reads
  have hc : 1 ≤ clampM (a0 % 130) ∧ clampM (a0 % 130) ≤ 100 := by unfold clampM; split <;> (try split) <;> omega
  refine order_core a0 a1 len1 cap1 z1 w x1 x2 hr hz hl (clampM (a0 % 130)).toNat (min len1 150) (min (min len1 150) (clampM (a0 % 130)).toNat) (if a0 % 130 < 1 then 1 else a0 % 130) rfl ?_ rfl (by omega) (by omega) ?_ ?_ (by omega) (by omega) ?_ ?_ rfl
  · have e : ((clampM (a0 % 130)).toNat : Int) = clampM (a0 % 130) := by omega
    rw [e]
    unfold clampM
    split <;> split <;> (try split) <;> omega
  · split <;> omega
  · split <;> omega
  · split <;> omega
  · split <;> omega
end Go.Proofs.Ytgfgmhfggbfeeaa.GreyLaws
