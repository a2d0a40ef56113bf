/-
  The walks of the laws of chapter 3: StoreMoves, StoreKeeps.
-/
import Derived.Test.YtgfgmhfggbfeeaaStore
import Derived.Test.YtgfgmhfggbfeeaaWord
import Derived.OpenShut
import Derived.ProofKit
namespace Go.Proofs.Ytgfgmhfggbfeeaa.StoreLaws
open Go.RowKit Go.Proofs.Ytgfgmhfggbfeeaa.Plain Go.Proofs.Ytgfgmhfggbfeeaa.Word Go.Proofs.Ytgfgmhfggbfeeaa.Store
set_option linter.unusedVariables false

set_option maxHeartbeats 1000000 in
theorem awake (w : World) : Calls Try.prog 42 #[] w fun e w' => e = .returned (.bool true) ∧ Ext w w' := by
  go_enter Try.func42, Try.ntmps42
  go_wp2_with fail
  refine (new_sto 2 2 2 _ rfl rfl (by decide)).mono ?_
  rintro e w1 ⟨rfl, s1, x1⟩
  go_wp2_with fail
  refine (len_sto s1).mono ?_
  rintro e w2 ⟨rfl, rfl⟩
  rw [List.length_replicate]
  go_wp2_with fail
  refine (put_n s1 _ _ (by simp)).mono ?_
  rintro e w3 ⟨rfl, rfl⟩
  go_wp2_with fail
  refine (put_y s1 1 (by decide) _).mono ?_
  rintro e w4 ⟨rfl, s4, k4⟩
  go_wp2_with fail
  refine (get_sto s4 1).mono ?_
  rintro e w5 ⟨rfl, rfl⟩
  go_wp2_with fail
  go_ret
  exact ⟨rfl, ((Keep.of_ext x1 _).trans k4).toExt (fun k hk => by intro h; omega)⟩

def zeros80 : Array Value := Array.replicate 80 (.int .u32 0)
theorem zero_run (w : World) : Sem.run Try.prog (zeroValue 66) w = .ok (.agg zeros80) w := by kernel_rfl
def padL (L : List Int) : List Int := L ++ List.replicate (80 - L.length) 0
theorem padL_length (L : List Int) (h : L.length ≤ 80) : (padL L).length = 80 := by simp [padL]; omega
theorem padL_set (L : List Int) (i : Nat) (v : Int) (h : i < L.length) : (padL L).set i v = padL (L.set i v) := by
  simp [padL, h]
theorem padL_getL (L : List Int) (i : Nat) (h : i < 80) (hL : L.length ≤ 80) : (padL L).getD i 0 = getL L i := by
  unfold padL getL
  by_cases h1 : i < L.length
  · rw [if_pos (by omega)]; simp [List.getD, List.getElem?_append, h1]
  · rw [if_neg (by omega)]; simp only [List.getD, List.getElem?_append, h1, List.getElem?_replicate, if_false]; split <;> rfl
theorem zeros80_pad (K : Nat) (h : K ≤ 80) : zeros80 = ((padL (List.replicate K 0)).map (Value.int .u32)).toArray := by
  unfold padL zeros80
  rw [List.length_replicate, List.replicate_append_replicate, show K + (80 - K) = 80 by omega]
  rfl
theorem getL_neg (L : List Int) : getL L (-1) = 0 := by simp [getL]
set_option maxRecDepth 100000 in
set_option maxHeartbeats 4000000 in
theorem keeps_core (a0 : Int) (a1 : Option Addr) (len cap : Nat) (zs : List Int) (w : World) (x1 : -9223372036854775808 ≤ a0) (x2 : a0 ≤ 9223372036854775807)
    (hr : ∀ i, i < len → ∃ b off, a1 = some ⟨b, off, none⟩ ∧ b < w.heap.size ∧ w.cell? ⟨b, off + i, none⟩ = some (.int .i64 (zs.getD i 0))) (hz : len ≤ zs.length) (hl : len ≤ 9223372036854775807)
    (hb : ∀ i, i < len → -9223372036854775808 ≤ zs.getD i 0 ∧ zs.getD i 0 ≤ 9223372036854775807)
    (K : Nat) (hK : a0 % 60 = (K : Int)) (hK2 : K < 60) :
    Calls Try.prog 14 #[.int .i64 a0, .slice a1 len cap] w fun e w' => e = .returned (.bool true) ∧ Below w.heap.size w w' := by
  have HR := Lib.hid hr
  have HB := Lib.hid hb
  clear hr hb
  have hM : (if (65536 : Int) < (K : Int) then 65536 else (K : Int)) = (K : Int) := by split <;> omega
  have hN : (if (0 : Int) < (K : Int) then (K : Int) else 0) = (K : Int) := by split <;> omega
  go_enter Try.func14, Try.ntmps14
  go_wp2_with (go_at_call 16; refine (place _ _ _ (by omega) (by omega) (by omega) (by omega)).mono ?_; rintro e w' ⟨rfl, rfl⟩; rw [hK])
  refine (new_sto _ (K : Int) K _ hM hN (by omega)).mono ?_
  rintro e w1 ⟨rfl, s1, x1⟩
  go_wp2_with fail
  refine (len_sto s1).mono ?_
  rintro e w2 ⟨rfl, rfl⟩
  rw [List.length_replicate]
  have hzr := zero_run
  go_wp2_with fail
  refine wp_name (fun W hW => ?_)
  have bz := Blk.new' hW
  rw [zeros80_pad K (by omega)] at bz
  have s2 : Sto W (w.heap.size + 1) w.heap.size (List.replicate K 0) := s1.ext (Ext.alloc' (Ext.refl _) hW)
  have x2 : Ext w W := x1.alloc' hW
  have hg1 : w.heap.size + 1 < w1.heap.size := s1.head.lt
  clear s1 hW
  go_loopw [8] (fun i wr => ∃ k : Nat, (k ≤ len ∧ k ≤ 60) ∧ i = .int .i64 k ∧ ∃ L : List Int, L.length = K ∧ Sto wr (w.heap.size + 1) w.heap.size L ∧ Blk wr w1.heap.size 66 ((padL L).map (Value.int .u32)).toArray ∧ Ext w wr) (fun i _ => 60 - (intOf i).toNat)
  case atStart => exact ⟨0, ⟨Nat.zero_le _, Nat.zero_le _⟩, rfl, _, by simp, s2, bz, x2⟩
  case round =>
    obtain ⟨k, ⟨hk, hk2⟩, rfl, L, hL, hs, hb, hx⟩ := hrel
    by_cases hlt : k < len ∧ k < 60
    · obtain ⟨hlt, hlt2⟩ := hlt
      obtain ⟨b, off, rfl, hbb, hc⟩ := HR.out k hlt
      have hvb := HB.out k hlt
      have hc' := hx.below.cell (p := ⟨b, off + k, none⟩) hbb
      rw [hc] at hc'
      clear hc
      generalize zs.getD k 0 = x at hvb hc'
      obtain ⟨V, hV⟩ : ∃ V : Nat, x % 268435456 = V := ⟨(x % 268435456).toNat, by omega⟩
      have hV2 : V < 268435456 := by omega
      have d1 : decide ((k : Int) < (len : Int)) = true := by simpa using hlt
      have d1' : decide (k < len) = true := by simpa using hlt
      have d2 : decide ((k : Int) < 60) = true := by simp; omega
      have d2' : decide (k < 60) = true := by simp; omega
      go_wp2_with (go_at_call 16; refine (place _ _ _ (by omega) (by omega) (by omega) (by omega)).mono ?_; rintro e w' ⟨rfl, rfl⟩; rw [hV])
      obtain ⟨P, hP⟩ : ∃ P : Nat, (V : Int) % 80 = P := ⟨((V : Int) % 80).toNat, by omega⟩
      have hP80 : P < 80 := by omega
      rw [hP]
      have x3 : ∀ W, Keep (· = w.heap.size) wr W → Ext w W := fun W k3 => ((Keep.of_ext hx _).trans k3).toExt (fun k hk => by intro h; omega)
      by_cases hPK : P < K
      · have d3 : decide ((P : Int) < (K : Int)) = true := by simpa using hPK
        have d3' : decide (P < K) = true := by simpa using hPK
        refine (put_y hs P (by omega) _).mono ?_
        rintro e w3 ⟨rfl, s3, k3⟩
        have b3 := hb.keep k3 (by first | omega | (simp only []; omega))
        have x4 := x3 _ k3
        have c5 := (b3.cell P).trans (row_at (padL L) P (by rw [padL_length L (by omega)]; omega))
        have f5 := b3.frozen P
        go_wp2_with fail
        go_roundw
        case rel => exact ⟨k + 1, ⟨by omega, by omega⟩, by go_num, L.set P V, by simpa using hL, s3.keep ((Keep.refl (· = w1.heap.size) w3).setCell rfl _) (by first | omega | (simp only []; omega)) (by first | omega | (simp only []; omega)), by
            rw [← padL_set L P V (by omega), ← set_row]; exact b3.set P _, x4.setNew (by first | omega | (simp only []; omega)) _⟩
        case measure => simp [intOf]; omega
      · have d3 : decide ((P : Int) < (K : Int)) = false := by simpa using hPK
        have d3' : decide (P < K) = false := by simpa using hPK
        refine (put_n hs _ _ (by omega)).mono ?_
        rintro e w3 ⟨rfl, rfl⟩
        go_wp2_with fail
        go_roundw
        case rel => exact ⟨k + 1, ⟨by omega, by omega⟩, by go_num, L, hL, hs, hb, hx⟩
        case measure => simp [intOf]; omega
    · obtain ⟨D, hD⟩ : ∃ D : Bool, decide (k < len) = D := ⟨_, rfl⟩
      have hD' : decide ((k : Int) < (len : Int)) = D := by rw [← hD]; simp
      have hE : decide (k < 60) = !D ∨ D = false := by
        cases D
        · exact .inr rfl
        · left; simp at hD ⊢; omega
      have hE' : (D = true → decide (k < 60) = false ∧ decide ((k : Int) < 60) = false) := by
        rintro rfl
        have d2' : decide (k < 60) = false := by simpa using hE
        exact ⟨d2', by simp at d2' ⊢; omega⟩
      clear hE
      rcases Bool.eq_false_or_eq_true D with rfl | rfl
      · obtain ⟨d2, d2'⟩ := hE' rfl
        clear hE'
        go_wp2_with fail
        go_loopw [11] (fun i wr => ∃ j : Nat, j ≤ 80 ∧ i = .int .i64 j ∧ Sto wr (w.heap.size + 1) w.heap.size L ∧ Blk wr w1.heap.size 66 ((padL L).map (Value.int .u32)).toArray ∧ Ext w wr) (fun i _ => 80 - (intOf i).toNat)
        case atStart => exact ⟨0, Nat.zero_le _, rfl, hs, hb, hx⟩
        case round =>
          clear hs hb hx
          obtain ⟨j, hj, rfl, hs, hb, hx⟩ := hrel
          rcases Nat.lt_or_ge j 80 with hj80 | hj80
          · have d6 : decide ((j : Int) < 80) = true := by simp; omega
            have d6' : decide (j < 80) = true := by simp; omega
            have c5 := (hb.cell j).trans (row_at (padL L) j (by rw [padL_length L (by omega)]; omega))
            rw [padL_getL L j (by omega) (by omega)] at c5
            have lt5 := hb.lt
            have gs := fun x => get_sto (hs.ext ⟨x, rfl⟩) (j : Int)
            generalize getL L (j : Int) = y at c5 gs
            go_wp2_with fail
            refine wp_region_ext (by kernel_rfl) (by kernel_rfl) ?_
            repeat (go_big_quiet_step (first | (go_at_call 45; exact calls_same (gs _)) | skip))
            refine wpQuiet_nil ?_
            rintro W1 ⟨x, hW1⟩
            have hX : Ext wr W1 := ⟨x, hW1⟩
            have hs1 := hs.ext hX
            have hb1 := hb.ext hX
            have hx1 := hx.trans hX
            clear hW1
            go_wp2_with fail
            go_roundw
            case rel => exact ⟨j + 1, by omega, by go_num, hs1, hb1, hx1⟩
            case measure => simp [intOf]; omega
          · obtain rfl : j = 80 := by omega
            go_wp2_with fail
            refine (get_sto hs (-1)).mono ?_
            rintro e w3 ⟨rfl, rfl⟩
            rw [getL_neg]
            go_wp2_with fail
            refine (put_n hs _ _ (by omega)).mono ?_
            rintro e w3 ⟨rfl, rfl⟩
            go_wp2_with fail
            refine (move_n hs _ _ _ (by omega)).mono ?_
            rintro e w3 ⟨rfl, rfl⟩
            go_wp2_with fail
            refine (move_y hs K K 0 (by omega) (by omega)).mono ?_
            rintro e w3 ⟨rfl, s3, k3⟩
            have x3 : Ext w w3 := ((Keep.of_ext hx _).trans k3).toExt (fun k hk => by intro h; omega)
            go_wp2_with fail
            refine (awake _).mono ?_
            rintro e w4 ⟨rfl, x4⟩
            have x5 := (x3.trans x4).below
            go_wp2_with fail
            go_ret
            exact ⟨rfl, x5⟩
      · clear hE'
        go_wp2_with fail
        go_loopw [11] (fun i wr => ∃ j : Nat, j ≤ 80 ∧ i = .int .i64 j ∧ Sto wr (w.heap.size + 1) w.heap.size L ∧ Blk wr w1.heap.size 66 ((padL L).map (Value.int .u32)).toArray ∧ Ext w wr) (fun i _ => 80 - (intOf i).toNat)
        case atStart => exact ⟨0, Nat.zero_le _, rfl, hs, hb, hx⟩
        case round =>
          clear hs hb hx
          obtain ⟨j, hj, rfl, hs, hb, hx⟩ := hrel
          rcases Nat.lt_or_ge j 80 with hj80 | hj80
          · have d6 : decide ((j : Int) < 80) = true := by simp; omega
            have d6' : decide (j < 80) = true := by simp; omega
            have c5 := (hb.cell j).trans (row_at (padL L) j (by rw [padL_length L (by omega)]; omega))
            rw [padL_getL L j (by omega) (by omega)] at c5
            have lt5 := hb.lt
            have gs := fun x => get_sto (hs.ext ⟨x, rfl⟩) (j : Int)
            generalize getL L (j : Int) = y at c5 gs
            go_wp2_with fail
            refine wp_region_ext (by kernel_rfl) (by kernel_rfl) ?_
            repeat (go_big_quiet_step (first | (go_at_call 45; exact calls_same (gs _)) | skip))
            refine wpQuiet_nil ?_
            rintro W1 ⟨x, hW1⟩
            have hX : Ext wr W1 := ⟨x, hW1⟩
            have hs1 := hs.ext hX
            have hb1 := hb.ext hX
            have hx1 := hx.trans hX
            clear hW1
            go_wp2_with fail
            go_roundw
            case rel => exact ⟨j + 1, by omega, by go_num, hs1, hb1, hx1⟩
            case measure => simp [intOf]; omega
          · obtain rfl : j = 80 := by omega
            go_wp2_with fail
            refine (get_sto hs (-1)).mono ?_
            rintro e w3 ⟨rfl, rfl⟩
            rw [getL_neg]
            go_wp2_with fail
            refine (put_n hs _ _ (by omega)).mono ?_
            rintro e w3 ⟨rfl, rfl⟩
            go_wp2_with fail
            refine (move_n hs _ _ _ (by omega)).mono ?_
            rintro e w3 ⟨rfl, rfl⟩
            go_wp2_with fail
            refine (move_y hs K K 0 (by omega) (by omega)).mono ?_
            rintro e w3 ⟨rfl, s3, k3⟩
            have x3 : Ext w w3 := ((Keep.of_ext hx _).trans k3).toExt (fun k hk => by intro h; omega)
            go_wp2_with fail
            refine (awake _).mono ?_
            rintro e w4 ⟨rfl, x4⟩
            have x5 := (x3.trans x4).below
            go_wp2_with fail
            go_ret
            exact ⟨rfl, x5⟩
/-- a slice of integers that came in: what the walk is told -/
def Row (k : IntKind) (w : World) (a : Option Addr) (len cap : Nat) (zs : List Int) : Prop :=
  (a = none ∧ len = 0 ∧ cap = 0 ∧ zs = []) ∨
  ∃ x, a = some x ∧ len ≤ cap ∧ cap ≤ maxLen ∧ zs.length = cap ∧ (∀ i, i < zs.length → w.cell? (x.add i) = some (.int k (zs.getD i 0))) ∧ ∀ n ∈ zs, (Lit.int k n).wf = true
theorem Row.reads {k : IntKind} {w : World} {a : Option Addr} {len cap : Nat} {zs : List Int} (h : Row k w a len cap zs) :
    (∀ i, i < len → ∃ b off, a = some ⟨b, off, none⟩ ∧ b < w.heap.size ∧ w.cell? ⟨b, off + i, none⟩ = some (.int k (zs.getD i 0))) ∧ len ≤ zs.length ∧ len ≤ 9223372036854775807 ∧ ∀ n ∈ zs, (Lit.int k n).wf = true := by
  rcases h with ⟨rfl, rfl, rfl, rfl⟩ | ⟨x, rfl, hl, hm, hz, hcell, hwz⟩
  · exact ⟨fun i hi => absurd hi (by omega), by simp, by omega, by simp⟩
  · unfold maxLen at hm
    refine ⟨fun i hi => ?_, by omega, by omega, hwz⟩
    obtain ⟨b, off, spot⟩ := x
    have hc := hcell i (by omega)
    have h0 := hcell 0 (by omega)
    have hspot : spot = none := by simpa [Addr.add] using World.cell?_spot h0
    subst hspot
    have e : (⟨b, off, none⟩ : Addr).add i = ⟨b, off + i, none⟩ := by unfold Addr.add; split <;> simp_all
    rw [e] at hc
    refine ⟨b, off, rfl, ?_, hc⟩
    rcases Nat.lt_or_ge b w.heap.size with hlt | hge
    · exact hlt
    · simp [World.cell?, Array.getElem?_eq_none hge] at hc
theorem getD_bounds {k : IntKind} {zs : List Int} (h : ∀ n ∈ zs, (Lit.int k n).wf = true) (i : Nat) (hi : i < zs.length) : (Lit.int k (zs.getD i 0)).wf = true := by
  have e : zs.getD i 0 = zs[i] := by simp [List.getD, hi]
  rw [e]; exact h _ (List.getElem_mem hi)
theorem storeKeeps (a0 : Int) (a1 : Option Addr) (len1 cap1 : Nat) (z1 : List Int) (w : World) (w0 : (Lit.int .i64 a0).wf = true) (w1 : Row .i64 w a1 len1 cap1 z1) :
    Calls Try.prog 14 #[.int .i64 a0, .slice a1 len1 cap1] w fun e w' => e = .returned (.bool true) ∧ Below w.heap.size w w' := by
  obtain ⟨x1, x2⟩ := bounds_i64 w0
  obtain ⟨hr, hz, hl, hw⟩ := w1.reads
  exact keeps_core a0 a1 len1 cap1 z1 w x1 x2 hr hz hl (fun i hi => bounds_i64 (getD_bounds hw i (by omega))) (a0 % 60).toNat (by omega) (by omega)
theorem take_pad_set (zs : List Int) (k n : Nat) (h : k < n) (hz : n ≤ zs.length) : (zs.take k ++ List.replicate (n - k) 0).set k (zs.getD k 0) = zs.take (k + 1) ++ List.replicate (n - (k + 1)) 0 := by
  have e : n - k = (n - (k + 1)) + 1 := by omega
  have e2 : zs.getD k 0 = zs[k]'(by omega) := by simp [List.getD, show k < zs.length by omega]
  rw [e, List.replicate_succ, List.take_succ_eq_append_getElem (show k < zs.length by omega), List.set_append_right _ _ (by rw [List.length_take]; omega), List.length_take, show k - min k zs.length = 0 by omega, e2, List.set_cons_zero, List.append_assoc]
  rfl
theorem take_all_pad (zs : List Int) (n : Nat) : zs.take n ++ List.replicate (n - n) 0 = zs.take n := by simp
/-- what stands at a place after a move -/
theorem moved_at (zs : List Int) (n A B C i : Nat) (hn : n ≤ zs.length) (hA : A + C ≤ n) (hB : B + C ≤ n) (hi : i < n) :
    getL (splice (zs.take n) B (((zs.take n).drop A).take C)) i = if B ≤ i ∧ i < B + C then zs.getD (A + i - B) 0 else zs.getD i 0 := by
  have hl : (((zs.take n).drop A).take C).length = C := by simp; omega
  have hl2 : (splice (zs.take n) B (((zs.take n).drop A).take C)).length = n := by rw [length_splice _ _ _ (by rw [hl]; simp; omega)]; simp; omega
  unfold getL
  rw [if_pos (by rw [hl2]; omega), Int.toNat_natCast]
  unfold splice
  rw [hl]
  by_cases h1 : i < B
  · rw [if_neg (by omega)]
    simp only [List.getD]
    rw [List.getElem?_append_left (by simp; omega), List.getElem?_take_of_lt h1, List.getElem?_take_of_lt hi]
  · by_cases h2 : i < B + C
    · rw [if_pos (by omega)]
      simp only [List.getD]
      rw [List.getElem?_append_right (by simp; omega), List.length_take, List.length_take, show i - min B (min n zs.length) = i - B by omega, List.getElem?_append_left (by rw [hl]; omega), List.getElem?_take_of_lt (by omega), List.getElem?_drop, List.getElem?_take_of_lt (by omega), show A + (i - B) = A + i - B by omega]
    · rw [if_neg (by omega)]
      simp only [List.getD]
      rw [List.getElem?_append_right (by simp; omega), List.length_take, List.length_take, show i - min B (min n zs.length) = i - B by omega, List.getElem?_append_right (by rw [hl]; omega), hl, List.getElem?_drop, show B + C + (i - B - C) = i by omega, List.getElem?_take_of_lt hi]
set_option maxRecDepth 100000 in
set_option maxHeartbeats 4000000 in
theorem moves_core (a0 : Option Addr) (len cap : Nat) (zs : List Int) (a1 a2 a3 : Int) (w : World)
    (hr : ∀ i, i < len → ∃ b off, a0 = some ⟨b, off, none⟩ ∧ b < w.heap.size ∧ w.cell? ⟨b, off + i, none⟩ = some (.int .u32 (zs.getD i 0))) (hz : len ≤ zs.length) (hl : len ≤ 9223372036854775807)
    (b1 : -9223372036854775808 ≤ a1) (b1' : a1 ≤ 9223372036854775807) (b2 : -9223372036854775808 ≤ a2) (b2' : a2 ≤ 9223372036854775807) (b3 : -9223372036854775808 ≤ a3) (b3' : a3 ≤ 9223372036854775807)
    (n A B M C : Nat) (hn : (if (100 : Int) < (len : Int) then (100 : Int) else (len : Int)) = (n : Int)) (hn' : (if 100 < len then (100 : Int) else (len : Int)) = (n : Int)) (hn1 : n ≤ len) (hn2 : n ≤ 100) (hn0 : 0 < n)
    (hA : a1 % (n : Int) = (A : Int)) (hB : a2 % (n : Int) = (B : Int)) (hA1 : A < n) (hB1 : B < n) (hM : (if (A : Int) < (B : Int) then (B : Int) else (A : Int)) = (M : Int)) (hM' : (if A < B then (B : Int) else (A : Int)) = (M : Int)) (hM1 : A ≤ M) (hM2 : B ≤ M) (hM3 : M < n)
    (hC : a3 % ((n : Int) - (M : Int) + 1) = (C : Int)) (hC1 : C + M ≤ n) :
    Calls Try.prog 13 #[.slice a0 len cap, .int .i64 a1, .int .i64 a2, .int .i64 a3] w fun e w' => e = .returned (.bool true) ∧ Below w.heap.size w w' := by
  have HR := Lib.hid hr
  clear hr
  have k1 : (if (65536 : Int) < (n : Int) then 65536 else (n : Int)) = (n : Int) := by split <;> omega
  have k2 : (if (0 : Int) < (n : Int) then (n : Int) else 0) = (n : Int) := by split <;> omega
  have dz : decide ((n : Int) = 0) = false := by simp; omega
  have dz' : decide (n = 0) = false := by simp; omega
  have dz2 : ((n : Int) == 0) = false := by simp; omega
  go_enter Try.func13, Try.ntmps13
  go_wp2_with fail
  refine (new_sto _ (n : Int) n _ k1 k2 (by omega)).mono ?_
  rintro e w1 ⟨rfl, s1, x1⟩
  go_wp2_with fail
  go_loopw [11] (fun i wr => ∃ k : Nat, k ≤ n ∧ i = .int .i64 k ∧ Sto wr (w.heap.size + 1) w.heap.size (zs.take k ++ List.replicate (n - k) 0) ∧ Ext w wr) (fun i _ => n - (intOf i).toNat)
  case atStart => exact ⟨0, Nat.zero_le _, rfl, by simpa using s1, x1⟩
  case round =>
    obtain ⟨k, hk, rfl, hs, hx⟩ := hrel
    have hlen : (zs.take k ++ List.replicate (n - k) (0 : Int)).length = n := by simp; omega
    by_cases hlt : k < n
    · obtain ⟨b, off, rfl, hbb, hc⟩ := HR.out k (by omega)
      have hc' := hx.below.cell (p := ⟨b, off + k, none⟩) hbb
      rw [hc] at hc'
      clear hc
      have hset := take_pad_set zs k n hlt (by omega)
      generalize zs.getD k 0 = x at hset hc'
      have d1 : decide ((k : Int) < (n : Int)) = true := by simpa using hlt
      have d1' : decide (k < n) = true := by simpa using hlt
      go_wp2_with fail
      refine (put_y hs k (by omega) _).mono ?_
      rintro e w3 ⟨rfl, s3, k3⟩
      rw [hset] at s3
      have x3 : Ext w w3 := ((Keep.of_ext hx _).trans k3).toExt (fun k hk => by intro h; omega)
      go_wp2_with fail
      go_roundw
      case rel => exact ⟨k + 1, by omega, by go_num, s3, x3⟩
      case measure => simp [intOf]; omega
    · obtain rfl : k = n := by omega
      rw [take_all_pad] at hs
      have d1 : decide ((k : Int) < (k : Int)) = false := by simp
      go_wp2_with (go_at_call 16; refine (place _ _ _ (by omega) (by omega) (by omega) (by omega)).mono ?_; rintro e w' ⟨rfl, rfl⟩; first | rw [hA] | rw [hB] | rw [hC])
      refine (move_y hs A B C (by simp; omega) (by simp; omega)).mono ?_
      rintro e w3 ⟨rfl, s3, k3⟩
      have x3 : Ext w w3 := ((Keep.of_ext hx _).trans k3).toExt (fun k hk => by intro h; omega)
      have at3 := fun i (hi : i < k) => moved_at zs k A B C i (by omega) (by omega) (by omega) hi
      have hl3 : (splice (zs.take k) B (((zs.take k).drop A).take C)).length = k := by rw [length_splice _ _ _ (by simp; omega)]; simp; omega
      generalize splice (zs.take k) B (((zs.take k).drop A).take C) = L at s3 at3 hl3
      clear hs hx k3
      go_wp2_with fail
      refine (move_n s3 _ _ _ (by omega)).mono ?_
      rintro e w4 ⟨rfl, rfl⟩
      go_wp2_with fail
      refine (move_n s3 _ _ _ (by omega)).mono ?_
      rintro e w4 ⟨rfl, rfl⟩
      go_wp2_with fail
      go_loopw [15] (fun i wr => ∃ j : Nat, j ≤ k ∧ i = .int .i64 j ∧ Sto wr (w.heap.size + 1) w.heap.size L ∧ Ext w wr) (fun i _ => k - (intOf i).toNat)
      case atStart => exact ⟨0, Nat.zero_le _, rfl, s3, x3⟩
      case round =>
        clear s3 x3
        obtain ⟨j, hj, rfl, hs, hx⟩ := hrel
        rcases Nat.lt_or_ge j k with hjk | hjk
        · have d6 : decide ((j : Int) < (k : Int)) = true := by simpa using hjk
          have d6' : decide (j < k) = true := by simpa using hjk
          obtain ⟨b, off, rfl, hbb, hc⟩ := HR.out j (by omega)
          have hc' := hx.below.cell (p := ⟨b, off + j, none⟩) hbb
          rw [hc] at hc'
          clear hc
          have gs := get_sto hs (j : Int)
          have ga := at3 j hjk
          by_cases hin : B ≤ j ∧ j < B + C
          · rw [if_pos hin] at ga
            obtain ⟨b', off', hbe, hbb', hc2⟩ := HR.out (A + j - B) (by omega)
            cases hbe
            have hc3 := hx.below.cell (p := ⟨b, off + (A + j - B), none⟩) hbb
            rw [hc2, ← ga] at hc3
            clear hc2 ga
            generalize getL L (j : Int) = y at hc3 gs
            generalize zs.getD j 0 = y2 at hc'
            obtain ⟨q, hq⟩ : ∃ q, A + j - B = q := ⟨_, rfl⟩
            have hq' : (A : Int) + (j : Int) - (B : Int) = (q : Int) := by omega
            have hqk : q < len := by omega
            rw [hq] at hc3
            have d7 : decide ((B : Int) ≤ (j : Int)) = true := by simp; omega
            have d7' : decide (B ≤ j) = true := by simp; omega
            have d8 : decide ((j : Int) < (B : Int) + (C : Int)) = true := by simp; omega
            go_wp2_with fail
            refine gs.mono ?_
            rintro e w5 ⟨rfl, rfl⟩
            go_wp2_with fail
            go_roundw
            case rel => exact ⟨j + 1, by omega, by go_num, hs, hx⟩
            case measure => simp [intOf]; omega
          · rw [if_neg hin] at ga
            rw [← ga] at hc'
            clear ga
            generalize getL L (j : Int) = y at hc' gs
            obtain ⟨D, hD⟩ : ∃ D : Bool, decide (B ≤ j) = D := ⟨_, rfl⟩
            have hD' : decide ((B : Int) ≤ (j : Int)) = D := by rw [← hD]; simp
            have hE : D = true → decide ((j : Int) < (B : Int) + (C : Int)) = false := by
              rintro rfl
              simp at hD ⊢; omega
            rcases Bool.eq_false_or_eq_true D with rfl | rfl
            · have d8 := hE rfl
              clear hE
              go_wp2_with fail
              refine gs.mono ?_
              rintro e w5 ⟨rfl, rfl⟩
              go_wp2_with fail
              go_roundw
              case rel => exact ⟨j + 1, by omega, by go_num, hs, hx⟩
              case measure => simp [intOf]; omega
            · clear hE
              go_wp2_with fail
              refine gs.mono ?_
              rintro e w5 ⟨rfl, rfl⟩
              go_wp2_with fail
              go_roundw
              case rel => exact ⟨j + 1, by omega, by go_num, hs, hx⟩
              case measure => simp [intOf]; omega
        · obtain rfl : j = k := by omega
          have d6 : decide ((j : Int) < (j : Int)) = false := by simp
          go_wp2_with fail
          refine (len_sto hs).mono ?_
          rintro e w5 ⟨rfl, rfl⟩
          rw [hl3]
          have d9 : decide (j ≤ 65536) = true := by simp; omega
          have d9' : decide ((j : Int) ≤ 65536) = true := by simp; omega
          go_wp2_with fail
          refine (awake _).mono ?_
          rintro e w4 ⟨rfl, x4⟩
          have x5 := (hx.trans x4).below
          go_wp2_with fail
          go_ret
          exact ⟨rfl, x5⟩
set_option maxHeartbeats 1000000 in
theorem moves_none (a0 : Option Addr) (cap : Nat) (a1 a2 a3 : Int) (w : World) :
    Calls Try.prog 13 #[.slice a0 0 cap, .int .i64 a1, .int .i64 a2, .int .i64 a3] w fun e w' => e = .returned (.bool true) ∧ Below w.heap.size w w' := by
  go_enter Try.func13, Try.ntmps13
  go_wp2_with fail
  refine (new_sto 0 0 0 _ rfl rfl (by decide)).mono ?_
  rintro e w1 ⟨rfl, s1, x1⟩
  go_wp2_with fail
  refine (awake _).mono ?_
  rintro e w4 ⟨rfl, x4⟩
  have x5 := (x1.trans x4).below
  go_wp2_with fail
  go_ret
  exact ⟨rfl, x5⟩
theorem storeMoves (a0 : Option Addr) (len0 cap0 : Nat) (z0 : List Int) (a1 : Int) (a2 : Int) (a3 : Int) (w : World) (w0 : Row .u32 w a0 len0 cap0 z0) (w1 : (Lit.int .i64 a1).wf = true) (w2 : (Lit.int .i64 a2).wf = true) (w3 : (Lit.int .i64 a3).wf = true) :
    Calls Try.prog 13 #[.slice a0 len0 cap0, .int .i64 a1, .int .i64 a2, .int .i64 a3] w fun e w' => e = .returned (.bool true) ∧ Below w.heap.size w w' := by
  obtain ⟨b1, b1'⟩ := bounds_i64 w1
  obtain ⟨b2, b2'⟩ := bounds_i64 w2
  obtain ⟨b3, b3'⟩ := bounds_i64 w3
  obtain ⟨hr, hz, hl, hw⟩ := w0.reads
  rcases Nat.eq_zero_or_pos len0 with rfl | hp
  · exact moves_none a0 cap0 a1 a2 a3 w
  · have n0 : 0 < min len0 100 := by omega
    have p1 := Int.emod_nonneg a1 (show ((min len0 100 : Nat) : Int) ≠ 0 by omega)
    have p1' := Int.emod_lt_of_pos a1 (show (0 : Int) < ((min len0 100 : Nat) : Int) by omega)
    have p2 := Int.emod_nonneg a2 (show ((min len0 100 : Nat) : Int) ≠ 0 by omega)
    have p2' := Int.emod_lt_of_pos a2 (show (0 : Int) < ((min len0 100 : Nat) : Int) by omega)
    obtain ⟨A, hA⟩ := Int.eq_ofNat_of_zero_le p1
    obtain ⟨B, hB⟩ := Int.eq_ofNat_of_zero_le p2
    rw [hA] at p1'
    rw [hB] at p2'
    have p3 := Int.emod_nonneg a3 (show ((min len0 100 : Nat) : Int) - ((max A B : Nat) : Int) + 1 ≠ 0 by omega)
    have p3' := Int.emod_lt_of_pos a3 (show (0 : Int) < ((min len0 100 : Nat) : Int) - ((max A B : Nat) : Int) + 1 by omega)
    obtain ⟨C, hC⟩ := Int.eq_ofNat_of_zero_le p3
    rw [hC] at p3'
    exact moves_core a0 len0 cap0 z0 a1 a2 a3 w hr hz hl b1 b1' b2 b2' b3 b3' (min len0 100) A B (max A B) C (by split <;> omega) (by split <;> omega) (by omega) (by omega) n0 hA hB (by omega) (by omega) (by split <;> omega) (by split <;> omega) (by omega) (by omega) (by omega) hC (by omega)
end Go.Proofs.Ytgfgmhfggbfeeaa.StoreLaws
