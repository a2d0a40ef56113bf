/-
  The walk of HeapWalks (chapter 5).
-/
import Derived.Test.YtiffoapjhkapfaaHeapLaws
namespace Go.Proofs.Ytiffoapjhkapfaa.Heap
open Go.RowKit Go.Proofs.Ytiffoapjhkapfaa.Plain Go.Proofs.Ytiffoapjhkapfaa.Free
set_option linter.unusedVariables false

section
variable (ks : Nat → Nat)
def wOf (i : Nat) : Nat := (ks i + 3) / 4
def offs : Nat → Nat
  | 0 => 0
  | i + 1 => offs i + 3 + wOf ks i
def Sx : Nat → List Int
  | 0 => List.replicate 800 0
  | i + 1 => made (Sx i) (offs ks i) (wOf ks i) 3 ((wOf ks i : Int) * 4 - ks i) 0 i 0
def Bx : Nat → List Bool
  | 0 => List.replicate 801 false
  | i + 1 => (Bx i).set (offs ks i + 1) true
def Lx (i : Nat) : List Run := [((offs ks i : Int), 800 - (offs ks i : Int))]
variable {ks}
theorem offs_le (hk : ∀ i, ks i ≤ 16) (i : Nat) : offs ks i ≤ 7 * i := by
  induction i with
  | zero => simp [offs]
  | succ i ih => have := hk i; simp only [offs, wOf]; omega
theorem offs_lt {i j : Nat} (h : i < j) : offs ks i + 3 ≤ offs ks j := by
  induction j with
  | zero => omega
  | succ j ih =>
    simp only [offs]
    rcases Nat.lt_or_ge i j with h1 | h1
    · have := ih h1; omega
    · obtain rfl : i = j := by omega
      omega
theorem Bx_len (i : Nat) : (Bx ks i).length = 801 := by
  induction i with
  | zero => exact List.length_replicate
  | succ i ih => rw [Bx, List.length_set, ih]
theorem made_len (S : List Int) (k W : Nat) (fmt odd cls hash x : Int) : (made S k W fmt odd cls hash x).length = S.length := by
  unfold made; rw [fill_len]; simp
theorem Sx_len (i : Nat) : (Sx ks i).length = 800 := by
  induction i with
  | zero => exact List.length_replicate
  | succ i ih => rw [Sx, made_len, ih]
theorem Bx_at (hk : ∀ i, ks i ≤ 16) (n : Nat) (hn : n ≤ 40) (q : Nat) : (Bx ks n).getD q false = true ↔ ∃ j, j < n ∧ q = offs ks j + 1 := by
  induction n with
  | zero =>
    constructor
    · intro h
      simp only [Bx, List.getD_eq_getElem?_getD, List.getElem?_replicate] at h
      split at h <;> simp at h
    · rintro ⟨j, hj, _⟩; omega
  | succ n ih =>
    have hl := Bx_len (ks := ks) n
    have ho := offs_le hk n
    simp only [Bx, List.getD_eq_getElem?_getD, List.getElem?_set]
    by_cases h : offs ks n + 1 = q
    · rw [if_pos h, if_pos (by omega)]
      exact ⟨fun _ => ⟨n, by omega, h.symm⟩, fun _ => rfl⟩
    · rw [if_neg h]
      rw [List.getD_eq_getElem?_getD] at ih
      rw [ih (by omega)]
      constructor
      · rintro ⟨j, hj, e⟩; exact ⟨j, by omega, e⟩
      · rintro ⟨j, hj, e⟩
        refine ⟨j, ?_, e⟩
        rcases Nat.lt_or_ge j n with h1 | h1
        · exact h1
        · obtain rfl : j = n := by omega
          exact absurd e.symm h
theorem next_is (Bg : List Bool) (p q : Nat) (hpq : p < q) (hq : q < Bg.length) (hb : Bg.getD q false = true) (hno : ∀ r, p < r → r < q → Bg.getD r false = false) : nextN Bg p = q := by
  by_cases h : p + 1 = q
  · subst h; exact next_yes Bg p hq hb
  · rw [next_no Bg p (by omega) (hno (p + 1) (by omega) (by omega))]
    exact next_is Bg (p + 1) q (by omega) hq hb (fun r h1 h2 => hno r (by omega) h2)
  termination_by q - p
theorem next_zero (Bg : List Bool) (p : Nat) (hno : ∀ r, p < r → Bg.getD r false = false) : nextN Bg p = 0 := by
  by_cases h : p + 1 < Bg.length
  · rw [next_no Bg p h (hno (p + 1) (by omega))]
    exact next_zero Bg (p + 1) (fun r h1 => hno r (by omega))
  · exact next_end Bg p (by omega)
  termination_by Bg.length - p
theorem fill_out (S : List Int) (p : Nat) (x : Int) (j q : Nat) (h : q < p) : (fill S p x j).getD q 0 = S.getD q 0 := by
  induction j with
  | zero => rfl
  | succ j ih =>
    rw [fill, List.getD_eq_getElem?_getD, List.getElem?_set_ne (by omega), ← List.getD_eq_getElem?_getD, ih]
theorem made_out (S : List Int) (k W : Nat) (fmt odd cls hash x : Int) (q : Nat) (h : q < k) : (made S k W fmt odd cls hash x).getD q 0 = S.getD q 0 := by
  unfold made
  rw [fill_out _ _ _ _ _ (by omega)]
  simp only [List.getD_eq_getElem?_getD]
  rw [List.getElem?_set_ne (by omega), List.getElem?_set_ne (by omega), List.getElem?_set_ne (by omega)]
theorem made_head (S : List Int) (k W : Nat) (fmt odd cls hash x : Int) (h : k < S.length) : (made S k W fmt odd cls hash x).getD k 0 = putN W fmt odd 0 false true := by
  unfold made
  rw [fill_out _ _ _ _ _ (by omega)]
  simp only [List.getD_eq_getElem?_getD]
  rw [List.getElem?_set_ne (by omega), List.getElem?_set_ne (by omega), List.getElem?_set_self h]
  rfl
theorem Sx_at (hk : ∀ i, ks i ≤ 16) (n : Nat) (hn : n ≤ 40) (j : Nat) (hj : j < n) : (Sx ks n).getD (offs ks j) 0 = putN (wOf ks j) 3 ((wOf ks j : Int) * 4 - ks j) 0 false true := by
  induction n with
  | zero => omega
  | succ n ih =>
    have ho := offs_le hk n
    rw [Sx]
    rcases Nat.lt_or_ge j n with h | h
    · rw [made_out _ _ _ _ _ _ _ _ _ (by have := offs_lt (ks := ks) h; omega)]
      exact ih (by omega) h
    · obtain rfl : j = n := by omega
      exact made_head _ _ _ _ _ _ _ _ (by rw [Sx_len]; omega)
theorem has_x (hk : ∀ i, ks i ≤ 16) {n j : Nat} (hn : n ≤ 40) (hj : j < n) : hasB (Bx ks n) ((offs ks j : Int) + 1) = true := by
  have ho := offs_le hk j
  unfold hasB
  rw [decide_eq_true (by rw [Bx_len]; omega), Bool.true_and, show ((offs ks j : Int) + 1).toNat = offs ks j + 1 from by omega]
  exact (Bx_at hk n hn _).2 ⟨j, hj, rfl⟩
theorem size_x (hk : ∀ i, ks i ≤ 16) {n j : Nat} (hn : n ≤ 40) (hj : j < n) : sizeI (Sx ks n) (Bx ks n) ((offs ks j : Int) + 1) = ks j := by
  have ho := offs_le hk j
  have hkj := hk j
  unfold sizeI
  rw [has_x hk hn hj]
  have e : Store.getL (Sx ks n) ((offs ks j : Int) + 1 - 1) = putN (wOf ks j) 3 ((wOf ks j : Int) * 4 - ks j) 0 false true := by
    unfold Store.getL
    rw [if_pos (by rw [Sx_len]; omega), show ((offs ks j : Int) + 1 - 1).toNat = offs ks j from by omega]
    exact Sx_at hk n hn j hj
  rw [e]
  have w1 : (wOf ks j : Int) * 4 - ks j < 4 ∧ 0 ≤ (wOf ks j : Int) * 4 - ks j ∧ wOf ks j ≤ 4 := by unfold wOf; omega
  have g1 := got_s (m := 0) (s := (wOf ks j : Int)) (f := 3) (o := (wOf ks j : Int) * 4 - ks j) (c := 0) (fi := false) (li := true)
  have g2 := got_f (m := 0) (s := (wOf ks j : Int)) (f := 3) (o := (wOf ks j : Int) * 4 - ks j) (c := 0) (fi := false) (li := true)
  have g3 := got_o (m := 0) (s := (wOf ks j : Int)) (f := 3) (o := (wOf ks j : Int) * 4 - ks j) (c := 0) (fi := false) (li := true)
  simp only [Int.zero_mul, Int.add_zero] at g1 g2 g3
  rw [g1, g2, g3]
  simp only [if_true]
  rw [if_pos (by decide)]
  omega
def nextX (ks : Nat → Nat) (n j : Nat) : Nat := if j < n then offs ks j + 1 else 0
theorem next_x (hk : ∀ i, ks i ≤ 16) {n j : Nat} (hn : n ≤ 40) (hj : j < n) : nextN (Bx ks n) (offs ks j + 1) = nextX ks n (j + 1) := by
  unfold nextX
  split
  · rename_i h
    have ho := offs_le hk (j + 1)
    refine next_is _ _ _ (by have := offs_lt (ks := ks) (i := j) (j := j + 1) (by omega); omega) (by rw [Bx_len]; omega) ((Bx_at hk n hn _).2 ⟨j + 1, h, rfl⟩) (fun r h1 h2 => ?_)
    rw [Bool.eq_false_iff]
    intro hr
    obtain ⟨i, hi, e⟩ := (Bx_at hk n hn r).1 hr
    rcases Nat.lt_trichotomy i (j + 1) with h3 | h3 | h3
    · rcases Nat.lt_or_ge i j with h4 | h4
      · have := offs_lt (ks := ks) h4; omega
      · obtain rfl : i = j := by omega
        omega
    · subst h3; omega
    · have := offs_lt (ks := ks) h3; omega
  · rename_i h
    refine next_zero _ _ (fun r h1 => ?_)
    rw [Bool.eq_false_iff]
    intro hr
    obtain ⟨i, hi, e⟩ := (Bx_at hk n hn r).1 hr
    rcases Nat.lt_or_ge i j with h4 | h4
    · have := offs_lt (ks := ks) h4; omega
    · obtain rfl : i = j := by omega
      omega
theorem next_x0 (hk : ∀ i, ks i ≤ 16) {n : Nat} (hn : n ≤ 40) : nextN (Bx ks n) 0 = nextX ks n 0 := by
  unfold nextX
  split
  · rename_i h
    refine next_is _ _ _ (by omega) (by rw [Bx_len]; simp [offs]) ((Bx_at hk n hn _).2 ⟨0, h, rfl⟩) (fun r h1 h2 => ?_)
    simp [offs] at h2
    omega
  · rename_i h
    refine next_zero _ _ (fun r h1 => ?_)
    rw [Bool.eq_false_iff]
    intro hr
    obtain ⟨i, hi, e⟩ := (Bx_at hk n hn r).1 hr
    omega
theorem bst_x (hk : ∀ i, ks i ≤ 16) {i : Nat} (hi : i < 40) : bst (Lx ks i) (3 + (wOf ks i : Int)) (Lx ks i).length = some 0 := by
  have ho := offs_le hk i
  have hkj := hk i
  have hw : wOf ks i ≤ 4 := by unfold wOf; omega
  show (if 3 + (wOf ks i : Int) ≤ 800 - (offs ks i : Int) then some 0 else none) = some 0
  rw [if_pos (by omega)]
theorem take_x (hk : ∀ i, ks i ≤ 16) {i : Nat} (hi : i < 40) : takeAt (Lx ks i) 0 (3 + (wOf ks i : Int)) = Lx ks (i + 1) := by
  have ho := offs_le hk i
  have hkj := hk i
  have hw : wOf ks i ≤ 4 := by unfold wOf; omega
  unfold takeAt
  have e : nth (Lx ks i) 0 = ((offs ks i : Int), 800 - (offs ks i : Int)) := rfl
  rw [e, if_neg (by show ¬ (800 - (offs ks i : Int) = _); omega)]
  show [((offs ks i : Int) + (3 + (wOf ks i : Int)), 800 - (offs ks i : Int) - (3 + (wOf ks i : Int)))] = _
  unfold Lx
  have e2 : (offs ks (i + 1) : Int) = (offs ks i : Int) + 3 + (wOf ks i : Int) := by simp only [offs]; omega
  rw [e2]
  congr 2 <;> omega
theorem words_x (i : Nat) : wordsL (Lx ks i) = 800 - (offs ks i : Int) := by
  show 0 + (800 - (offs ks i : Int)) = _
  omega
end
set_option maxRecDepth 100000 in
set_option maxHeartbeats 4000000 in
theorem walks_core (a : Option Addr) (len cap : Nat) (z : Nat → Int) (w : World) (hl : len ≤ 9223372036854775807)
    (hr : ∀ i, i < len → ∃ b off, a = some ⟨b, off, none⟩ ∧ b < w.heap.size ∧ w.cell? ⟨b, off + i, none⟩ = some (.int .i64 (z i)) ∧ -9223372036854775808 ≤ z i ∧ z i ≤ 9223372036854775807) (ks : Nat → Nat) (hks : ∀ i, z i % 17 = (ks i : Int)) (hk : ∀ i, ks i ≤ 16) :
    Calls Try.prog 3 #[.slice a len cap] w fun e w' => e = .returned (.bool true) ∧ Below w.heap.size w w' := by
  have HR := Lib.hid hr
  have HKS := Lib.hid hks
  have HK := Lib.hid hk
  clear hr hks hk
  go_enter Try.func3, Try.ntmps3
  go_wp2_with fail
  refine (new 800 800 800 w rfl rfl (by omega)).mono ?_
  rintro e w1 ⟨⟨h, rfl, H1⟩, x1⟩
  have HH1 : Hid (Heap w1 h w.heap.size (Sx ks 0) (Lx ks 0) (Bx ks 0)) := H1
  clear H1
  go_wp2_with fail
  go_loopw [4, 5, 6] (fun c s i wr => ∃ k : Nat, k ≤ len ∧ k ≤ 40 ∧ i = .int .i64 k ∧ c = .int .i64 k ∧ s = .int .i64 (offs ks k) ∧ Heap wr h w.heap.size (Sx ks k) (Lx ks k) (Bx ks k) ∧ Ext w wr) (fun _ _ i _ => len - (intOf i).toNat)
  case atStart => exact ⟨0, Nat.zero_le _, by omega, rfl, rfl, rfl, HH1.out, x1⟩
  case round =>
    obtain ⟨k, hk, hk40, rfl, rfl, rfl, hh, hx⟩ := hrel
    have ho := offs_le HK.out k
    by_cases hlt : k < len ∧ k < 40
    · obtain ⟨hlt, hlt2⟩ := hlt
      obtain ⟨b, off, rfl, hb, c0, b1, b2⟩ := HR.out k hlt
      have c0' := (hx.below.cell (p := ⟨b, off + k, none⟩) hb).trans c0
      have hks := HKS.out k
      have hk16 := HK.out k
      have OW : Hid (offs ks (k + 1) = offs ks k + 3 + wOf ks k) := rfl
      have SW : Hid (Sx ks (k + 1) = made (Sx ks k) (offs ks k) (wOf ks k) 3 ((wOf ks k : Int) * 4 - ks k) 0 k 0) := rfl
      have BW : Hid (Bx ks (k + 1) = (Bx ks k).set (offs ks k + 1) true) := rfl
      have bx := Lib.hid (bst_x HK.out hlt2)
      have tx := Lib.hid (take_x HK.out hlt2)
      have WE : Hid (wOf ks k = (ks k + 3) / 4) := rfl
      have HKSk := Lib.hid hks
      clear c0 hks
      generalize z k = x at c0' HKSk b1 b2
      have dl : decide ((k : Int) < (len : Int)) = true := by simp; omega
      have d40 : decide ((k : Int) < 40) = true := by simp; omega
      go_wp2_with fail
      refine (Word.place _ _ _ (by omega) (by omega) (by omega) (by omega)).mono ?_
      rintro e w' ⟨rfl, rfl⟩
      rw [HKSk.out]
      go_wp2_with fail
      refine (make_bytes hh (ks k) 0 k (wOf ks k) (by omega) WE.out (by omega) (by omega) (by omega) (by omega)).mono ?_
      rintro e w2 hp
      obtain ⟨k', hk', rfl, H2, K2⟩ := hp.2 0 bx.out
      have hk'' : (offs ks k : Int) = (k' : Int) := hk'
      obtain rfl : offs ks k = k' := by omega
      rw [tx.out, ← SW.out, ← BW.out] at H2
      have x2 : Ext w w2 := ((Keep.of_ext hx (w.heap.size ≤ ·)).trans K2).toExt (fun j hj hs => by omega)
      have HH2 := Lib.hid H2
      have we : ((ks k : Int) + 3) / 4 = (wOf ks k : Int) := by rw [WE.out]; omega
      have ow : (offs ks (k + 1) : Int) = (offs ks k : Int) + 3 + (wOf ks k : Int) := by rw [OW.out]; omega
      have OW2 := Lib.hid ow
      have hw4 : wOf ks k ≤ 4 := by rw [WE.out]; omega
      clear hp hk' hk'' H2 K2 ow
      generalize offs ks k = o at *
      generalize wOf ks k = W at *
      go_wp2_with fail
      go_roundw
      case rel => exact ⟨k + 1, by omega, by omega, by go_num, by go_num, by rw [OW2.out], HH2.out, x2⟩
      case measure => simp [intOf]; omega
    · by_cases hl1 : k < len
      · have dl : decide ((k : Int) < (len : Int)) = true := by simp; omega
        have d40 : decide ((k : Int) < 40) = false := by simp; omega
        clear hk
        have n0 := next hh 0 0 rfl (by omega)
        rw [next_x0 HK.out hk40] at n0
        have N0 := Lib.hid n0
        clear n0
        go_wp2_with fail
        refine N0.out.mono ?_
        rintro e w2 ⟨rfl, rfl⟩
        go_wp2_with fail
        go_loopw [10, 11] (fun p q wq => ∃ j : Nat, j ≤ k ∧ q = .int .i64 j ∧ p = .int .i64 (nextX ks k j) ∧ Ext wr wq) (fun _ q _ => k + 1 - (intOf q).toNat)
        case atStart => exact ⟨0, Nat.zero_le _, rfl, rfl, Ext.refl _⟩
        case round =>
          obtain ⟨j, hj, rfl, rfl, hq⟩ := hrel
          have hhq := hh.ext hq
          by_cases hjk : j < k
          · have e1 : nextX ks k j = offs ks j + 1 := if_pos hjk
            have hoj := offs_le HK.out j
            have nx := next hhq ((offs ks j : Int) + 1) (offs ks j + 1) (by rw [if_neg (by omega)]; omega) (by omega)
            rw [next_x HK.out hk40 hjk] at nx
            have hs := has hhq ((offs ks j : Int) + 1)
            rw [has_x HK.out hk40 hjk] at hs
            have sz := size hhq ((offs ks j : Int) + 1) (by omega) (by omega)
            rw [size_x HK.out hk40 hjk] at sz
            have NX := Lib.hid nx
            have HS := Lib.hid hs
            have SZ := Lib.hid sz
            have hk16 := HK.out j
            rw [e1]
            clear nx hs sz e1
            have cst : ((offs ks j + 1 : Nat) : Int) = (offs ks j : Int) + 1 := by omega
            rw [cst]
            clear cst
            have dj : decide ((j : Int) ≤ (k : Int)) = true := by simp; omega
            have dj2 : decide (j ≤ k) = true := by simp; omega
            have d0 : ((offs ks j : Int) + 1 != 0) = true := by simp; omega
            by_cases hlast : j + 1 < k
            · have e2 : Hid (nextX ks k (j + 1) = offs ks (j + 1) + 1) := Lib.hid (if_pos hlast)
              have NX2 := NX.out
              rw [e2.out] at NX2
              have cst : ((offs ks (j + 1) + 1 : Nat) : Int) = (offs ks (j + 1) : Int) + 1 := by omega
              rw [cst] at NX2
              have NX3 := Lib.hid NX2
              have oe : (offs ks (j + 1) : Int) = (offs ks j : Int) + 3 + ((ks j : Int) + 3) / 4 := by
                have : offs ks (j + 1) = offs ks j + 3 + (ks j + 3) / 4 := rfl
                rw [this]; omega
              have OE := Lib.hid oe
              have hoj1 := offs_le HK.out (j + 1)
              have d1 : ((offs ks (j + 1) : Int) + 1 != 0) = true := by simp; omega
              have d2 : decide ((offs ks (j + 1) : Int) + 1 < (offs ks j : Int) + 1 + 3 + ((ks j : Int) + 3) / 4) = false := by simp; omega
              clear NX NX2 cst oe
              generalize offs ks (j + 1) = o1 at *
              generalize offs ks j = o at *
              generalize ks j = kj at *
              go_wp2_with fail
              refine NX3.out.mono ?_
              rintro e w3 ⟨rfl, rfl⟩
              go_wp2_with fail
              refine HS.out.mono ?_
              rintro e w4 ⟨rfl, rfl⟩
              go_wp2_with fail
              refine SZ.out.mono ?_
              rintro e w5 ⟨rfl, x5⟩
              go_wp2_with fail
              go_roundw
              case rel => exact ⟨j + 1, by omega, by go_num, by rw [e2.out]; go_num, hq.trans x5⟩
              case measure => simp [intOf]; omega
            · have e2 : Hid (nextX ks k (j + 1) = 0) := Lib.hid (if_neg hlast)
              have NX2 := NX.out
              rw [e2.out] at NX2
              have NX3 := Lib.hid NX2
              clear NX NX2
              generalize offs ks j = o at *
              go_wp2_with fail
              refine NX3.out.mono ?_
              rintro e w3 ⟨rfl, rfl⟩
              go_wp2_with fail
              refine HS.out.mono ?_
              rintro e w4 ⟨rfl, rfl⟩
              go_wp2_with fail
              go_roundw
              case rel => exact ⟨j + 1, by omega, by go_num, by rw [e2.out]; rfl, hq⟩
              case measure => simp [intOf]; omega
          · obtain rfl : j = k := by omega
            have e1 : nextX ks j j = 0 := if_neg (by omega)
            rw [e1]
            have wds := words hhq
            rw [words_x, Sx_len] at wds
            have ce : (((800 : Nat) : Int) - (800 - (offs ks j : Int))) = (offs ks j : Int) := by omega
            rw [ce] at wds
            have WD := Lib.hid wds
            clear wds e1 ce
            go_wp2_with fail
            refine WD.out.mono ?_
            rintro e w3 ⟨rfl, x3⟩
            have h3 := hhq.ext x3
            have n5 := next h3 (-5) 0 rfl (by omega)
            have n6 := next h3 0 0 rfl (by omega)
            have N5 := Lib.hid n5
            have N6 := Lib.hid n6
            clear n5 n6
            generalize nextN (Bx ks j) 0 = nn at *
            go_wp2_with fail
            refine N5.out.mono ?_
            rintro e w4 ⟨rfl, rfl⟩
            go_wp2_with fail
            refine N6.out.mono ?_
            rintro e w5 ⟨rfl, rfl⟩
            go_wp2_with fail
            refine (awake _).mono ?_
            rintro e w6 ⟨rfl, x6⟩
            go_wp2_with fail
            go_ret
            exact ⟨rfl, (((hx.trans hq).trans x3).trans x6).below⟩
      · have dl : decide ((k : Int) < (len : Int)) = false := by simp; omega
        clear hk
        have n0 := next hh 0 0 rfl (by omega)
        rw [next_x0 HK.out hk40] at n0
        have N0 := Lib.hid n0
        clear n0
        go_wp2_with fail
        refine N0.out.mono ?_
        rintro e w2 ⟨rfl, rfl⟩
        go_wp2_with fail
        go_loopw [10, 11] (fun p q wq => ∃ j : Nat, j ≤ k ∧ q = .int .i64 j ∧ p = .int .i64 (nextX ks k j) ∧ Ext wr wq) (fun _ q _ => k + 1 - (intOf q).toNat)
        case atStart => exact ⟨0, Nat.zero_le _, rfl, rfl, Ext.refl _⟩
        case round =>
          obtain ⟨j, hj, rfl, rfl, hq⟩ := hrel
          have hhq := hh.ext hq
          by_cases hjk : j < k
          · have e1 : nextX ks k j = offs ks j + 1 := if_pos hjk
            have hoj := offs_le HK.out j
            have nx := next hhq ((offs ks j : Int) + 1) (offs ks j + 1) (by rw [if_neg (by omega)]; omega) (by omega)
            rw [next_x HK.out hk40 hjk] at nx
            have hs := has hhq ((offs ks j : Int) + 1)
            rw [has_x HK.out hk40 hjk] at hs
            have sz := size hhq ((offs ks j : Int) + 1) (by omega) (by omega)
            rw [size_x HK.out hk40 hjk] at sz
            have NX := Lib.hid nx
            have HS := Lib.hid hs
            have SZ := Lib.hid sz
            have hk16 := HK.out j
            rw [e1]
            clear nx hs sz e1
            have cst : ((offs ks j + 1 : Nat) : Int) = (offs ks j : Int) + 1 := by omega
            rw [cst]
            clear cst
            have dj : decide ((j : Int) ≤ (k : Int)) = true := by simp; omega
            have dj2 : decide (j ≤ k) = true := by simp; omega
            have d0 : ((offs ks j : Int) + 1 != 0) = true := by simp; omega
            by_cases hlast : j + 1 < k
            · have e2 : Hid (nextX ks k (j + 1) = offs ks (j + 1) + 1) := Lib.hid (if_pos hlast)
              have NX2 := NX.out
              rw [e2.out] at NX2
              have cst : ((offs ks (j + 1) + 1 : Nat) : Int) = (offs ks (j + 1) : Int) + 1 := by omega
              rw [cst] at NX2
              have NX3 := Lib.hid NX2
              have oe : (offs ks (j + 1) : Int) = (offs ks j : Int) + 3 + ((ks j : Int) + 3) / 4 := by
                have : offs ks (j + 1) = offs ks j + 3 + (ks j + 3) / 4 := rfl
                rw [this]; omega
              have OE := Lib.hid oe
              have hoj1 := offs_le HK.out (j + 1)
              have d1 : ((offs ks (j + 1) : Int) + 1 != 0) = true := by simp; omega
              have d2 : decide ((offs ks (j + 1) : Int) + 1 < (offs ks j : Int) + 1 + 3 + ((ks j : Int) + 3) / 4) = false := by simp; omega
              clear NX NX2 cst oe
              generalize offs ks (j + 1) = o1 at *
              generalize offs ks j = o at *
              generalize ks j = kj at *
              go_wp2_with fail
              refine NX3.out.mono ?_
              rintro e w3 ⟨rfl, rfl⟩
              go_wp2_with fail
              refine HS.out.mono ?_
              rintro e w4 ⟨rfl, rfl⟩
              go_wp2_with fail
              refine SZ.out.mono ?_
              rintro e w5 ⟨rfl, x5⟩
              go_wp2_with fail
              go_roundw
              case rel => exact ⟨j + 1, by omega, by go_num, by rw [e2.out]; go_num, hq.trans x5⟩
              case measure => simp [intOf]; omega
            · have e2 : Hid (nextX ks k (j + 1) = 0) := Lib.hid (if_neg hlast)
              have NX2 := NX.out
              rw [e2.out] at NX2
              have NX3 := Lib.hid NX2
              clear NX NX2
              generalize offs ks j = o at *
              go_wp2_with fail
              refine NX3.out.mono ?_
              rintro e w3 ⟨rfl, rfl⟩
              go_wp2_with fail
              refine HS.out.mono ?_
              rintro e w4 ⟨rfl, rfl⟩
              go_wp2_with fail
              go_roundw
              case rel => exact ⟨j + 1, by omega, by go_num, by rw [e2.out]; rfl, hq⟩
              case measure => simp [intOf]; omega
          · obtain rfl : j = k := by omega
            have e1 : nextX ks j j = 0 := if_neg (by omega)
            rw [e1]
            have wds := words hhq
            rw [words_x, Sx_len] at wds
            have ce : (((800 : Nat) : Int) - (800 - (offs ks j : Int))) = (offs ks j : Int) := by omega
            rw [ce] at wds
            have WD := Lib.hid wds
            clear wds e1 ce
            go_wp2_with fail
            refine WD.out.mono ?_
            rintro e w3 ⟨rfl, x3⟩
            have h3 := hhq.ext x3
            have n5 := next h3 (-5) 0 rfl (by omega)
            have n6 := next h3 0 0 rfl (by omega)
            have N5 := Lib.hid n5
            have N6 := Lib.hid n6
            clear n5 n6
            generalize nextN (Bx ks j) 0 = nn at *
            go_wp2_with fail
            refine N5.out.mono ?_
            rintro e w4 ⟨rfl, rfl⟩
            go_wp2_with fail
            refine N6.out.mono ?_
            rintro e w5 ⟨rfl, rfl⟩
            go_wp2_with fail
            refine (awake _).mono ?_
            rintro e w6 ⟨rfl, x6⟩
            go_wp2_with fail
            go_ret
            exact ⟨rfl, (((hx.trans hq).trans x3).trans x6).below⟩
theorem heapWalks {H : Type} {enc : TypeId × Value → H} {r : Reach} {u0 : Nat} {d0 : DataW H} {p0 : List MemPlace} (v0 : Value) (w : World)
    (hv0 : Value.okWide Try.prog w r u0 22 v0) (h0 : DataW.Trod enc Try.prog w 0 (fun _ => true) true 22 v0 d0 p0) :
    Calls Try.prog 3 #[v0] w fun e w' => e = .returned (.bool true) ∧ Below w.heap.size w w' := by
  obtain ⟨a, len, cap, z, rfl, hl, hn⟩ := Shell.open_ints Try.underlying22 Try.underlying3 (by kernel_rfl) hv0 h0
  unfold maxLen at hl
  exact walks_core a len cap z w (by omega) hn (fun i => (z i % 17).toNat) (fun i => by show _ = ((z i % 17).toNat : Int); omega) (fun i => by show (z i % 17).toNat ≤ 16; omega)
end Go.Proofs.Ytiffoapjhkapfaa.Heap
