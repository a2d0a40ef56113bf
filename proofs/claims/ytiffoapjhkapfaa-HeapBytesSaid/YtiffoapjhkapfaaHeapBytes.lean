/-
  The walk of HeapBytes (chapter 5): bytes of any number.
-/
import Derived.Test.YtiffoapjhkapfaaHeapByte
import Derived.Test.YtiffoapjhkapfaaHeapKeepsPlain
import Derived.Test.YtiffoapjhkapfaaHeapLaws
import Derived.Deep.RegionHeld3
import Derived.Deep.DrawnRows
namespace Go.Proofs.Ytiffoapjhkapfaa.Heap
open Go.RowKit Go.Proofs.Ytiffoapjhkapfaa.Plain Go.Proofs.Ytiffoapjhkapfaa.Free
set_option linter.unusedVariables false
attribute [local go_sem ↓] Go.wp_at_zero Go.wp_at_succ

/-! ### plain -/
def wordsOf (K : Nat) : Nat := (K + 3) / 4
theorem wordsOf_bd (K : Nat) : wordsOf K * 4 < K + 4 ∧ K ≤ wordsOf K * 4 := by unfold wordsOf; omega
def byteAt (S : List Int) (t : Nat) : Int := S.getD (3 + t / 4) 0 / 256 ^ (t % 4) % 256
def B1 (K : Nat) : List Bool := (List.replicate (wordsOf K + 4) false).set 1 true
structure BK (K : Nat) (S : List Int) (p : Nat → Int) : Prop where
  len : S.length = 3 + wordsOf K
  head : S.getD 0 0 = putN (wordsOf K) 3 ((wordsOf K : Int) * 4 - K) 0 false true
  hash : S.getD 2 0 = intW 1
  byte : ∀ t, t < K → byteAt S t = p t
  wd : ∀ x ∈ S, 0 ≤ x ∧ x < 4294967296
section
variable {K : Nat} {S : List Int} {p : Nat → Int}
theorem BK.start (K : Nat) : BK K (made (List.replicate (3 + wordsOf K) 0) 0 (wordsOf K) 3 ((wordsOf K : Int) * 4 - K) 0 1 0) (fun _ => 0) := by
  have hb := wordsOf_bd K
  refine ⟨by rw [made_len']; simp, made_0 _ _ _ _ _ _ _ _ (by simp; omega), made_2 _ 0 _ _ _ _ _ _ (by simp; omega), fun t ht => ?_, ?_⟩
  · unfold byteAt
    have e := made_3 (List.replicate (3 + wordsOf K) 0) 0 (wordsOf K) 3 ((wordsOf K : Int) * 4 - K) 0 1 0 (t / 4) (by omega) (by simp; omega)
    rw [Nat.zero_add] at e
    rw [e]; simp
  · unfold made
    exact fill_wd (wd_set (wd_set (wd_set (fun x hx => by rw [List.eq_of_mem_replicate hx]; omega) (by have := putN_bd (wordsOf K) 3 ((wordsOf K : Int) * 4 - K) 0 false true; omega)) (by decide)) (by decide)) _ _ (by decide) _
theorem hasB1 (K : Nat) : hasB (B1 K) 1 = true := by
  have e := has_nat (Bg := B1 K) (k := 0) (by unfold B1; simp)
  rw [show ((0 : Nat) : Int) + 1 = 1 from rfl] at e
  rw [e]; unfold B1; exact bset_in _ _ _ (by simp)
theorem BK.getL (h : BK K S p) : Store.getL S (1 - 1) = putN (wordsOf K) 3 ((wordsOf K : Int) * 4 - K) 0 false true := by
  have e := getL_nat S 0 (by have := h.len; omega)
  rw [h.head] at e; exact e
theorem BK.fmt (h : BK K S p) : fmtI S (B1 K) 1 = 3 := by
  unfold fmtI
  rw [if_pos (hasB1 K), h.getL, put_f _ _ _ (by omega) (by omega)]
theorem BK.size (h : BK K S p) (hK : K ≤ 200) : sizeI S (B1 K) 1 = K := by
  have hb := wordsOf_bd K
  unfold sizeI
  rw [if_pos (hasB1 K), h.getL, put_f _ _ _ (by omega) (by omega), if_pos rfl, put_s _ _ _ (by omega) (by omega), put_o _ _ _ (by omega) (by omega)]
  omega
theorem BK.in_ (h : BK K S p) (hK : K ≤ 200) (t : Nat) (b : Bool) (hb : decide (t < K) = b) : inB S (B1 K) 1 t true = b := by
  subst hb
  unfold inB
  rw [hasB1, h.fmt, h.size hK, decide_eq_true (by omega), show ((3 : Int) == 3) = true from rfl]
  simp
theorem BK.fld (h : BK K S p) (t : Int) : inB S (B1 K) 1 t false = false := by
  unfold inB
  rw [h.fmt]; simp
theorem BK.hash_ (h : BK K S p) : hashI S (B1 K) 1 = 1 := by
  unfold hashI
  rw [if_pos (hasB1 K)]
  have e := getL_nat S 2 (by have := h.len; omega)
  rw [h.hash] at e
  rw [show (1 : Int) + 1 = ((2 : Nat) : Int) from rfl, e]
  exact hash_back 1 (by omega)
theorem BK.bt (h : BK K S p) (t : Nat) (ht : t < K) : Store.getL S (1 + 2 + (t : Int) / 4) / 256 ^ (t % 4) % 256 = p t := by
  have hb := wordsOf_bd K
  have hl := h.len
  rw [show (1 : Int) + 2 + (t : Int) / 4 = ((3 + t / 4 : Nat) : Int) from by omega, getL_nat _ _ (by omega)]
  exact h.byte t ht
theorem BK.set (h : BK K S p) (q : Nat) (hq : q < K) (v : Int) : BK K (S.set (3 + q / 4) (setV (Store.getL S ((3 + q / 4 : Nat) : Int)) (q % 4) v)) (fun t => if t = q then v % 256 else p t) := by
  have hb := wordsOf_bd K
  have hl := h.len
  have hx := getL_bd h.wd ((3 + q / 4 : Nat) : Int)
  have e : Store.getL S ((3 + q / 4 : Nat) : Int) = S.getD (3 + q / 4) 0 := getL_nat _ _ (by omega)
  refine ⟨by rw [List.length_set]; exact hl, by rw [set_out _ _ _ _ (by omega)]; exact h.head, by rw [set_out _ _ _ _ (by omega)]; exact h.hash, fun t ht => ?_, wd_set h.wd (setV_bd _ _ _ (by omega) hx.1 hx.2)⟩
  unfold byteAt
  by_cases e1 : t / 4 = q / 4
  · rw [e1, set_in _ _ _ (by omega), setV_get _ _ _ _ (by omega) (by omega) hx.1 hx.2]
    by_cases e2 : t = q
    · subst e2; rw [if_pos rfl, if_pos rfl]
    · rw [if_neg (by omega), if_neg e2, e, ← e1]; exact h.byte t ht
  · rw [set_out _ _ _ _ (by omega), if_neg (by rintro rfl; exact e1 rfl)]; exact h.byte t ht
theorem BK.drop (h : BK K S p) (hK : K ≤ 200) : 3 + gotS (Store.getL S ((0 : Nat) : Int)) = 3 + (wordsOf K : Int) := by
  have hb := wordsOf_bd K
  have e := getL_nat S 0 (by have := h.len; omega)
  rw [e, h.head, put_s _ _ _ (by omega) (by omega)]
end
theorem dropped_has (K : Nat) : hasB ((B1 K).set (0 + 1) false) 1 = false := by
  have e := has_nat (Bg := (B1 K).set (0 + 1) false) (k := 0) (by unfold B1; simp)
  rw [show ((0 : Nat) : Int) + 1 = 1 from rfl] at e
  rw [e]; exact bset_in _ _ _ (by unfold B1; simp)
/-! ### an array of numbers -/
def zeros200 : Array Value := Array.replicate 200 (.int .i64 0)
theorem zero200 (w : World) : Sem.run Try.prog (zeroValue 52) w = .ok (.agg zeros200) w := by kernel_rfl
structure IsN (w : World) (ib : Nat) (p : Nat → Int) : Prop where
  is : ∃ cs, Blk w ib 52 cs ∧ cs.size = 200 ∧ ∀ x : Nat, x < 200 → cs[x]? = some (.int .i64 (p x))
section
variable {w w' : World} {ib : Nat} {p : Nat → Int}
theorem IsN.ext (h : IsN w ib p) (x : Ext w w') : IsN w' ib p := by obtain ⟨cs, hb, hr⟩ := h.is; exact ⟨cs, hb.ext x, hr⟩
theorem IsN.hk {base : Nat} (h : IsN w ib p) (k : HKp base w w') : IsN w' ib p := by obtain ⟨cs, hb, hr⟩ := h.is; exact ⟨cs, blk_hk hb k (by decide), hr⟩
theorem IsN.cell (h : IsN w ib p) (x : Nat) (hx : x < 200) : w.cell? ⟨ib, x, none⟩ = some (.int .i64 (p x)) ∧ w.frozen? ⟨ib, x, none⟩ = false ∧ ib < w.heap.size := by
  obtain ⟨cs, hb, _, hr⟩ := h.is
  exact ⟨(hb.cell x).trans (hr x hx), hb.frozen x, hb.lt⟩
theorem IsN.set (h : IsN w ib p) (x : Nat) (hx : x < 200) (v : Int) : IsN (w.setCell ⟨ib, x, none⟩ (.int .i64 v)) ib (fun t => if t = x then v else p t) := by
  obtain ⟨cs, hb, hs, hr⟩ := h.is
  refine ⟨_, hb.set x _, by simpa using hs, fun y hy => ?_⟩
  by_cases e : y = x
  · subst e; rw [Array.getElem?_setIfInBounds_self_of_lt (by omega)]; simp
  · rw [Array.getElem?_setIfInBounds_ne (by omega), hr y hy]; simp [e]
theorem IsN.new (w : World) : IsN (w.alloc (.cells zeros200 52)) w.heap.size (fun _ => 0) :=
  ⟨zeros200, Blk.new _ _ _, Array.size_replicate, fun x hx => by unfold zeros200; rw [Array.getElem?_replicate, if_pos hx]⟩
theorem Heap.set {h base : Nat} {S : List Int} {L : List Run} {Bg : List Bool} (H : Heap w h base S L Bg) (N : IsN w ib p) (x : Nat) (v : Value) : Heap (w.setCell ⟨ib, x, none⟩ v) h base S L Bg := by
  obtain ⟨cs, hb, _, _⟩ := N.is
  have k : KT [52] w (w.setCell ⟨ib, x, none⟩ v) := (Keep.refl _ w).setCell (p := ⟨ib, x, none⟩) ⟨_, _, by simp, hb⟩ _
  obtain ⟨s, sb, f, bb, v, H⟩ := H
  exact ⟨s, sb, f, bb, v, blk_kt H.blk k (by decide), ⟨blk_kt H.sto.head k (by decide), blk_kt H.sto.row k (by decide), H.sto.le⟩, ⟨blk_kt H.fre.blk k (by decide), own_kt H.fre.own k (by decide), H.fre.len, H.fre.bd⟩, blk_kt H.bg k (by decide), H.len, H.up, H.wd, H.lo⟩
end
structure Rb (w wr : World) (h ib K : Nat) (S : List Int) (p : Nat → Int) : Prop where
  bk : BK K S p
  hp : Heap wr h w.heap.size S [] (B1 K)
  is : IsN wr ib p
  x : Ext w wr
  ib0 : w.heap.size ≤ ib
set_option maxRecDepth 100000 in
set_option maxHeartbeats 8000000 in
theorem bytes_core (n : Int) (a : Option Addr) (len cap : Nat) (z : Nat → Int) (w : World) (hl : len ≤ 9223372036854775807) (hn1 : -9223372036854775808 ≤ n) (hn2 : n ≤ 9223372036854775807)
    (hr : ∀ i, i < len → ∃ b off, a = some ⟨b, off, none⟩ ∧ b < w.heap.size ∧ w.cell? ⟨b, off + i, none⟩ = some (.int .i64 (z i)) ∧ -9223372036854775808 ≤ z i ∧ z i ≤ 9223372036854775807) (K : Nat) (hnK : n % 201 = (K : Int)) (vs : Nat → Nat) (hks : ∀ i, z i % 1048576 = (vs i : Int)) (hk : ∀ i, vs i ≤ 1048575) :
    Calls Try.prog 9 #[.int .i64 n, .slice a len cap] w fun e w' => e = .returned (.bool true) ∧ Below w.heap.size w w' := by
  have hK : K ≤ 200 := by omega
  have HR := Lib.hid hr
  have HKS := Lib.hid hks
  have HK := Lib.hid hk
  have HNK := Lib.hid hnK
  have hb := wordsOf_bd K
  have WE : Hid (wordsOf K = (K + 3) / 4) := rfl
  have BS := Lib.hid (BK.start K)
  have hz := zero200
  clear hr hks hk hnK
  generalize hW : wordsOf K = W at *
  have HW := Lib.hid hW
  clear hW
  go_enter Try.func9, Try.ntmps9
  go_wp2_with fail
  refine (Word.place _ _ _ (by omega) (by omega) (by omega) (by omega)).mono ?_
  rintro e w' ⟨rfl, rfl⟩
  rw [HNK.out]
  go_wp2_with fail
  rw [show (3 : Int) + ((K : Int) + 3) / 4 = ((3 + W : Nat) : Int) from by have := WE.out; omega]
  refine (new _ ((3 + W : Nat) : Int) (3 + W) w (by rw [if_neg (by omega)]) (by rw [if_pos (by omega)]) (by omega)).mono ?_
  rintro e w1 ⟨⟨h, rfl, H1⟩, x1⟩
  have eL : allL (3 + W) = [((0 : Int), ((3 + W : Nat) : Int))] := by unfold allL; rw [if_neg (by omega)]
  rw [eL] at H1
  have MK1 := Lib.hid (make_bytes H1 K 0 1 W hK WE.out (by omega) (by omega) (by omega) (by omega))
  clear eL H1
  go_wp2_with fail
  refine MK1.out.mono ?_
  rintro e w2 hp
  obtain ⟨k, hk, rfl, H2, K2⟩ := hp.2 0 (by show (if 3 + (W : Int) ≤ ((3 + W : Nat) : Int) then some 0 else none) = some 0; rw [if_pos (by omega)])
  obtain rfl : k = 0 := by have : (0 : Int) = (k : Int) := hk; omega
  have eT : takeAt [((0 : Int), ((3 + W : Nat) : Int))] 0 (3 + (W : Int)) = [] := by unfold takeAt; rw [if_pos (by show ((3 + W : Nat) : Int) = 3 + (W : Int); omega)]; rfl
  have eB : (List.replicate (3 + W + 1) false).set (0 + 1) true = B1 K := by unfold B1; rw [HW.out, show 3 + W + 1 = W + 4 from by omega]
  rw [eT, eB] at H2
  have x2 := hk_ext x1 (Nat.le_refl _) K2
  have HH2 := Lib.hid H2
  have NO := Lib.hid (make_bytes H2 0 0 2 0 (by omega) (by omega) (by omega) (by omega) (by omega) (by omega))
  clear hp hk eT eB H2 K2 x1 MK1
  go_wp2_with fail
  refine NO.out.mono ?_
  rintro e w3 hp
  obtain ⟨rfl, x3⟩ := hp.1 rfl
  have H3 := HH2.out.ext x3
  have SZ := size_ H3 1
  rw [BS.out.size hK] at SZ
  have SZ := Lib.hid SZ
  have X3 := Lib.hid (x2.trans x3)
  have HH3 := Lib.hid H3
  clear hp NO x2 x3 H3 HH2
  go_wp2_with fail
  refine SZ.out.mono ?_
  rintro e w4 ⟨rfl, x4⟩
  have R4 : Hid (Rb w (w4.alloc (.cells zeros200 52)) h w4.heap.size K _ (fun _ => 0)) := Lib.hid ⟨BS.out, (HH3.out.ext x4).ext ((Ext.refl _).alloc _), IsN.new _, (X3.out.trans x4).alloc _, by have := (X3.out.trans x4).below.size; exact this⟩
  clear SZ x4
  go_wp2_with fail
  generalize w4.heap.size = ib at *
  generalize w4.alloc (.cells zeros200 52) = w5 at *
  clear w4
  go_loopw [12] (fun iv wr => ∃ (i : Nat) (S : List Int) (p : Nat → Int), i ≤ len ∧ i ≤ 100 ∧ iv = .int .i64 i ∧ Rb w wr h ib K S p) (fun iv _ => len - (intOf iv).toNat)
  case atStart => exact ⟨0, _, _, Nat.zero_le _, by omega, rfl, R4.out⟩
  case round =>
    obtain ⟨i, S, p, hi, hi100, rfl, R⟩ := hrel
    have RR := Lib.hid R
    by_cases hlt : i < len ∧ i < 100
    · obtain ⟨hlt, hlt2⟩ := hlt
      obtain ⟨b, off, rfl, hb', c0, b1, b2⟩ := HR.out i hlt
      have c0' := (R.x.below.cell (p := ⟨b, off + i, none⟩) hb').trans c0
      have hks := HKS.out i
      have hv := HK.out i
      have HKSi := Lib.hid hks
      have hib := R.ib0
      clear c0 hks R
      generalize z i = x at c0' HKSi b1 b2
      generalize vs i = v at *
      have ne : ((v : Int) / 256) % 205 = ((v / 256 % 205 : Nat) : Int) := by omega
      have NE := Lib.hid ne
      have q5 : v / 256 % 205 < 205 := Nat.mod_lt _ (by omega)
      have hvr : (v : Int) < 1048576 := by omega
      clear ne
      generalize v / 256 % 205 = q at *
      have dl : decide ((i : Int) < (len : Int)) = true := by simp; omega
      have d40 : decide ((i : Int) < 100) = true := by simp; omega
      by_cases hqK : q < K
      · have hin := RR.out.bk.in_ hK q true (decide_eq_true hqK)
        have ST := Lib.hid (setbyte_yes RR.out.hp 1 q (v : Int) (3 + q / 4) (by omega) (by have := RR.out.bk.len; have := HW.out; omega) hin (by omega) (by omega) (by omega))
        have BK2 := Lib.hid (RR.out.bk.set q hqK (v : Int))
        have dq : decide ((q : Int) < (K : Int)) = true := by simp; omega
        have dq' : decide (q < K) = true := by simp; omega
        clear hin
        go_wp2_with fail
        refine (Word.place _ _ _ (by omega) (by omega) (by omega) (by omega)).mono ?_
        rintro e w' ⟨rfl, rfl⟩
        rw [HKSi.out]
        go_wp2_with fail
        rw [NE.out]
        refine ST.out.mono ?_
        rintro e w6 ⟨rfl, h6, k6⟩
        have i6 := RR.out.is.hk k6
        obtain ⟨ic1, ic2, ic3⟩ := i6.cell q (by omega)
        have q200 : (q : Int) < 200 := by omega
        have R7 : Hid (Rb w (w6.setCell ⟨ib, q, none⟩ (.int .i64 ((v : Int) % 256))) h ib K _ _) := Lib.hid ⟨BK2.out, h6.set i6 q _, i6.set q (by omega) _, (hk_ext RR.out.x (Nat.le_refl _) k6).setNew (p := ⟨ib, q, none⟩) hib _, hib⟩
        clear i6 h6 k6
        generalize p q = pq at *
        go_wp2_with fail
        go_roundw
        case rel => exact ⟨i + 1, _, _, by omega, by omega, by go_num, R7.out⟩
        case measure => simp [intOf]; omega
      · have hin := RR.out.bk.in_ hK q false (decide_eq_false hqK)
        have ST := Lib.hid (setbyte_no RR.out.hp 1 q (v : Int) hin)
        have dq : decide ((q : Int) < (K : Int)) = false := by simp; omega
        have dq' : decide (q < K) = false := by simp; omega
        clear hin
        go_wp2_with fail
        refine (Word.place _ _ _ (by omega) (by omega) (by omega) (by omega)).mono ?_
        rintro e w' ⟨rfl, rfl⟩
        rw [HKSi.out]
        go_wp2_with fail
        rw [NE.out]
        refine ST.out.mono ?_
        rintro e w6 ⟨rfl, x6⟩
        have R7 : Hid (Rb w w6 h ib K S p) := Lib.hid ⟨RR.out.bk, RR.out.hp.ext x6, RR.out.is.ext x6, RR.out.x.trans x6, hib⟩
        clear x6
        go_wp2_with fail
        go_roundw
        case rel => exact ⟨i + 1, _, _, by omega, by omega, by go_num, R7.out⟩
        case measure => simp [intOf]; omega
    · have ways : (i < len ∧ 100 ≤ i) ∨ len ≤ i := by omega
      clear hi hlt R
      rcases ways with ⟨wy1, wy2⟩ | wy1
      all_goals
        go_wp2_with fail
        obtain ⟨wo, rfl⟩ : ∃ wo : World, wo = wr := ⟨_, rfl⟩
        go_loopw [15] (fun jv wq => ∃ j : Nat, j ≤ K ∧ jv = .int .i64 j ∧ Ext wo wq) (fun jv _ => K - (intOf jv).toNat)
        case atStart => exact ⟨0, Nat.zero_le _, rfl, Ext.refl _⟩
        case round =>
          obtain ⟨j, hj, rfl, xq⟩ := hrel
          have XQ := Lib.hid xq
          by_cases hjK : j < K
          · have hin := RR.out.bk.in_ hK j true (decide_eq_true hjK)
            have BY := byte_yes (RR.out.hp.ext (xq.trans (Ext.refl _).drew)) 1 j hin (by omega)
            rw [RR.out.bk.bt j hjK] at BY
            have BY := Lib.hid BY
            obtain ⟨ic1, ic2, ic3⟩ := (RR.out.is.ext xq).cell j (by omega)
            have IC := Lib.hid (fun W (x : Ext wr W) => ((RR.out.is.ext xq).ext x).cell j (by omega))
            have djK : decide ((j : Int) < (K : Int)) = true := by simp; omega
            have djK' : decide (j < K) = true := by simp; omega
            have j200 : (j : Int) < 200 := by omega
            clear hin xq
            generalize p j = pj at *
            go_wp2_with fail
            go_region_held3 (fun w' => w'.cell? ⟨ib, j, none⟩ = some (.int .i64 pj)) (first | exact (IC.out _ (Ext.refl _).drew).1 | exact (IC.out _ ((Ext.refl _).drew.trans x6)).1 | exact ic1)
              (first | (go_at_call 33; refine BY.out.mono ?_; rintro e w6 ⟨rfl, x6⟩))
            have X6 := Lib.hid (XQ.out.trans ((Ext.refl _).drew.trans x6))
            clear x6 ic1 ic2 ic3
            go_wp2_with fail
            go_roundw
            case rel => exact ⟨j + 1, by omega, by go_num, X6.out⟩
            case measure => simp [intOf]; omega
          · obtain rfl : j = K := by omega
            have djK : decide ((j : Int) < (j : Int)) = false := by simp
            have djK' : decide (j < j) = false := by simp
            have hq := RR.out.hp.ext xq
            have hin := RR.out.bk.in_ hK j false (decide_eq_false (by omega))
            have BN := Lib.hid (byte_no hq 1 (j : Int) hin)
            have FN := Lib.hid (fun W (x : Ext wo W) => field_no (RR.out.hp.ext x) 1 0 (RR.out.bk.fld 0))
            have SN := Lib.hid (fun W (x : Ext wo W) => setfield_no (RR.out.hp.ext x) 1 0 5 (RR.out.bk.fld 0))
            have HN := fun W (x : Ext wo W) => hash_ (RR.out.hp.ext x) 1
            rw [RR.out.bk.hash_] at HN
            have HN := Lib.hid HN
            have hlen := RR.out.bk.len
            have DY := Lib.hid (fun W (x : Ext wo W) => drop_yes (RR.out.hp.ext x) 1 0 (3 + (wordsOf j : Int)) rfl (hasB1 j) (RR.out.bk.drop hK) trivial ⟨by omega, by omega, by rw [hlen]; omega, fun y _ _ hh => has_nil _ hh⟩ (by have := RR.out.x.below.size; have := x.below.size; omega))
            clear hin hq xq hlen
            go_wp2_with fail
            refine BN.out.mono ?_
            rintro e w6 ⟨rfl, x6'⟩
            have x6 := XQ.out.trans x6'
            go_wp2_with fail
            refine (FN.out _ x6).mono ?_
            rintro e w7 ⟨rfl, x7'⟩
            have x7 := x6.trans x7'
            go_wp2_with fail
            refine (SN.out _ x7).mono ?_
            rintro e w8 ⟨rfl, x8'⟩
            have x8 := x7.trans x8'
            go_wp2_with fail
            refine (HN.out _ x8).mono ?_
            rintro e w9 ⟨rfl, x9'⟩
            have x9 := x8.trans x9'
            go_wp2_with fail
            refine (DY.out _ x9).mono ?_
            rintro e w10 ⟨rfl, ⟨L', h10, _, _⟩, k10⟩
            have DN := Lib.hid (drop_no h10 1 (dropped_has j))
            have x10 := hk_ext (RR.out.x.trans x9) (Nat.le_refl _) k10
            clear h10 k10 x6 x6' x7 x7' x8 x8' x9 x9'
            go_wp2_with fail
            refine DN.out.mono ?_
            rintro e w11 ⟨rfl, rfl⟩
            go_wp2_with fail
            refine (awake _).mono ?_
            rintro e w12 ⟨rfl, x12⟩
            go_wp2_with fail
            go_ret
            exact ⟨rfl, (x10.trans x12).below⟩
theorem heapBytes {H : Type} {enc : TypeId × Value → H} {r : Reach} {u1 : Nat} {d1 : DataW H} {p1 : List MemPlace} (a0 : Int) (v1 : Value) (w : World) (w0 : (Lit.int .i64 a0).wf = true)
    (hv1 : Value.okWide Try.prog w r u1 22 v1) (h1 : DataW.Trod enc Try.prog w 0 (fun _ => true) true 22 v1 d1 p1) :
    Calls Try.prog 9 #[.int .i64 a0, v1] w fun e w' => e = .returned (.bool true) ∧ Below w.heap.size w w' := by
  obtain ⟨x1, x2⟩ := bounds_i64 w0
  obtain ⟨a, len, cap, z, rfl, hl, hn⟩ := Shell.open_ints Try.underlying22 Try.underlying3 (by kernel_rfl) hv1 h1
  unfold maxLen at hl
  exact bytes_core a0 a len cap z w (by omega) x1 x2 hn (a0 % 201).toNat (by omega) (fun i => (z i % 1048576).toNat) (fun i => by show _ = ((z i % 1048576).toNat : Int); omega) (fun i => by show (z i % 1048576).toNat ≤ 1048575; omega)
end Go.Proofs.Ytiffoapjhkapfaa.Heap
