/-
  Read7b, as one text (a claim has at most 60 files).
-/
import Derived.Test.YtadhkmplhgcgkaaMc37
namespace Go.Proofs.Ytadhkmplhgcgkaa.World
open Go.RowKit Go.Proofs.Ytadhkmplhgcgkaa.Plain
set_option linter.unusedVariables false
attribute [local go_sem ↓] Go.wp_at_zero Go.wp_at_succ
theorem R7At.far {w0 w : World} {g q : Nat} {S : ByteArray} {s : RdS} (h : R7At w0 w g S s) (hn : q ≠ g) (hq : w0.heap.size ≤ q) (i : Nat) (u : Value) : R7At w0 (w.setCell ⟨q, i, none⟩ u) g S s := by
  obtain ⟨a, ha, b, e⟩ := h.ex
  exact ⟨⟨a, ha, b.far (p := ⟨q, i, none⟩) (fun e => hn e.symm) _, e⟩, h.x.setNew (p := ⟨q, i, none⟩) hq _, h.hg⟩
theorem R7At.grow {w0 w w' : World} {g : Nat} {S : ByteArray} {s : RdS} {v : Value} (h : R7At w0 w g S s) (k : Keep (fun j => v.ownBlock = some j) w w') (hn : v.ownBlock ≠ some g) (hb : ∀ j, v.ownBlock = some j → w0.heap.size ≤ j) : R7At w0 w' g S s := by
  obtain ⟨a, ha, b, e⟩ := h.ex
  exact ⟨⟨a, ha, b.keep k hn, e⟩, Ext.of_below (Keep.below h.x.below k h.x.below.size (fun i hi e => by have := hb i e; omega)), h.hg⟩
theorem nums_stay (s : RdS) (k : Nat) : ∀ (j : Nat), k ≤ j → (numsR k s).2.e ≠ 0 → (numsR j s).2 = (numsR k s).2 := by
  intro j
  induction j with
  | zero =>
    intro hk h
    obtain rfl : k = 0 := by omega
    rfl
  | succ j ih =>
    intro hk h
    rcases Nat.lt_or_ge k (j + 1) with h1 | h1
    · have e := ih (by omega) h
      show (numR (numsR j s).2).2 = _
      rw [e]; exact stay_num h
    · obtain rfl : k = j + 1 := by omega
      rfl
theorem vals_stay (s : RdS) (k : Nat) : ∀ (j : Nat), k ≤ j → (valsR k s).2.e ≠ 0 → (valsR j s).2 = (valsR k s).2 := by
  intro j
  induction j with
  | zero =>
    intro hk h
    obtain rfl : k = 0 := by omega
    rfl
  | succ j ih =>
    intro hk h
    rcases Nat.lt_or_ge k (j + 1) with h1 | h1
    · have e := ih (by omega) h
      show (valR (valsR j s).2).2 = _
      rw [e]; exact stay_val h
    · obtain rfl : k = j + 1 := by omega
      rfl
section
variable {w w0 : World} {g : Nat} {s : RdS} {S : ByteArray}
set_option maxRecDepth 100000 in
set_option maxHeartbeats 2000000 in
theorem list7 (h : R7At w0 w g S s) (hS : S.size ≤ 100000) (hb : okB s.b) (hl : s.b.length ≤ 100000) : Calls Try.prog 75 #[.pointer (some ⟨g, 0, none⟩)] w fun e w' => ∃ v l, e = .returned v ∧ OwnI w' w.heap.size v l ∧ ((placesR s).2.e = 0 → l = (placesR s).1) ∧ (∀ n ∈ l, in64 n) ∧ R7At w0 w' g S (placesR s).2 ∧ Keep (· = g) w w' := by
  have CC := Lib.hid (fun W2 (z : Ext w W2) => count7 (h.ext z) (by omega) hb 4 (by omega) (by omega))
  obtain ⟨n0, n1⟩ := countR_in (each := 4) hb
  have hle := count_le (each := 4) (by omega) s
  have hsh := count_short 4 s
  have OKc := Lib.hid (okB_count (each := 4) hb)
  have EP : Hid (placesR s = numsR (countR 4 s).1.toNat (countR 4 s).2) := Lib.hid rfl
  have hgw : g < w.heap.size := by obtain ⟨a, _, b, _⟩ := h.ex; exact b.lt
  have hw0 := Lib.hid (show w0.heap.size ≤ w.heap.size from h.x.below.size)
  obtain ⟨iI, hI, hI0, hI1, hI2⟩ := info_parts infoN
  clear h hb
  generalize placesR s = ps at *
  generalize (countR 4 s).2 = s1 at *
  obtain ⟨n, hn⟩ := Int.eq_ofNat_of_zero_le n0
  rw [hn] at CC EP hle
  rw [Int.toNat_natCast] at EP
  have hn1 : n ≤ 100000 := by omega
  have NS := Lib.hid (nums_stay s1)
  clear hn n0 n1 hle
  go_enter Try.func75, Try.ntmps75
  go_upto_region 3 with (go_at_call 72; refine (CC.out _ (is_ext _ _)).mono ?_; rintro e w2 ⟨rfl, hd, k2⟩; have HD := Lib.hid hd; have K2 := Lib.hid (Keep.trans (Keep.of_ext (is_ext w _) (· = g)) k2); clear hd k2)
  go_wp2_with fail
  go_loopw [3, 5] (fun u3 iv wr => ∃ k : Nat, k ≤ n ∧ iv = .int .i64 k ∧ ∃ A c, u3 = .slice A k c ∧ OwnI wr w.heap.size (.slice A k c) (numsR k s1).1 ∧ R7At w0 wr g S (numsR k s1).2 ∧ Keep (· = g) w wr) (fun _ iv _ => n - (intOf iv).toNat)
  case atStart => exact ⟨0, Nat.zero_le _, rfl, none, 0, rfl, OwnI.nil _ _, HD.out, K2.out⟩
  case round =>
    obtain ⟨k, hk, rfl, A, c, rfl, o, d, kk⟩ := hrel
    have O := Lib.hid o
    have D := Lib.hid d
    have KK := Lib.hid kk
    have N64 := Lib.hid (nums64 k OKc.out)
    obtain ⟨a, ha, bb, _⟩ := d.ex
    have BB := Lib.hid bb
    obtain ⟨r1, r2, r3⟩ := bb.rules
    clear o d kk bb
    by_cases hlt : k < n
    · have kI : (k : Int) < (n : Int) := by omega
      by_cases he : (numsR k s1).2.e = 0
      · have hs2 : okB (numsR k s1).2.b := okB_nums k OKc.out
        obtain ⟨z0, z1⟩ := numR_in hs2
        have CN := Lib.hid (fun W2 (z : Ext wr W2) => word7 (D.out.ext z) (by omega) hs2)
        have LK := Lib.hid (nums_len k s1)
        have EN : Hid (numsR (k + 1) s1 = ((numsR k s1).1 ++ [(numR (numsR k s1).2).1], (numR (numsR k s1).2).2)) := Lib.hid rfl
        rw [he] at r1
        clear hs2 he
        generalize (numR (numsR k s1).2).2 = s3 at *
        generalize (numR (numsR k s1).2).1 = z at *
        generalize (numsR k s1).1 = l at *
        go_wp2_with ((first | (go_at_call 74; refine (CN.out _ (is_ext _ _)).mono ?_; rintro e w4 ⟨rfl, hd, k4⟩; have D4 := Lib.hid hd; obtain ⟨a2, _, bb2, _⟩ := hd.ex; have BB2 := Lib.hid bb2; clear bb2; have K4 := Lib.hid (KK.out.trans (Keep.trans (Keep.of_ext (is_ext wr _) (· = g)) k4)); have O4 : Hid (OwnI w4 w.heap.size (.slice A k c) l) := Lib.hid (OwnI.of_own (Own.keep (O.out.ext (is_ext wr _)).own k4 (BB.out.ext (is_ext wr _)) (by decide))); clear hd k4; have o5 := O4.out; unfold OwnI at o5; rw [LK.out] at o5; have O5 := Lib.hid (o5.alloc (.cells #[.int .i64 z] 3)); have s5 := K4.out.size; clear o5) | (at_builtin; refine wpList_append_lies _ rfl _ _ _ rfl w.heap.size 3 iI (.int .i64 0) 1 8 Try.underlying22 hI hI0 hI1 hI2 rfl (by decide) _ _ _ (by rfl) O5.out ⟨w4.heap.size, 0, none⟩ 1 1 [.int .i64 z] (by rfl) (by rfl) (World.news_of_block (heap_alloc_new w4 _)) (by simp [Value.oneCell']) (by omega) (by unfold maxLen; omega) (by omega) (by simp; omega) (w4.heap.size + 1) (by simp) ?_; intro gg cc w6 o6 g6 hat6 hlt6)))
        have KG := grow_keep g6
        have D6 : Hid (R7At w0 w6 g S s3) := Lib.hid (D4.out.grow KG (fun e => by obtain ⟨_, cs, hb⟩ := O4.out.own.block e; exact (BB2.out.ne hb (by decide)) rfl) (fun j e => Nat.le_trans hw0.out (O4.out.own.block e).1))
        have K6 : Hid (Keep (· = g) w w6) := Lib.hid (Keep.toBase KG K4.out (fun j e => (O4.out.own.block e).1))
        have O6 : Hid (OwnI w6 w.heap.size (.slice (some ⟨gg, 0, none⟩) (k + 1) cc) (l ++ [z])) := Lib.hid (by
          unfold OwnI
          show w6.ownsRow _ _ _ _ (l ++ [z]).length ((l ++ [z]).map _)
          rw [List.length_append, LK.out, List.map_append]
          exact o6)
        clear o6 g6 hat6 KG r1 r2 r3
        go_wp2_with fail
        go_roundw
        case rel => exact ⟨k + 1, by omega, by go_num, _, _, rfl, by rw [EN.out]; exact O6.out, by rw [EN.out]; exact D6.out, K6.out⟩
        case measure => simp [intOf] <;> omega
      · have e0 : ((numsR k s1).2.e == 0) = false := beq_eq_false_iff_ne.2 he
        have ES : Hid (ps.2 = (numsR k s1).2) := Lib.hid (by rw [EP.out]; exact NS.out k n hk he)
        have HE := Lib.hid he
        clear he
        go_wp2_with fail
        go_ret
        exact ⟨_, _, rfl, O.out, (fun q => absurd (by rw [← ES.out]; exact q) HE.out), N64.out, by rw [ES.out]; exact D.out, KK.out⟩
    · obtain rfl : k = n := by omega
      go_wp2_with fail
      go_ret
      exact ⟨_, _, rfl, O.out, (fun _ => by rw [EP.out]), N64.out, by rw [EP.out]; exact D.out, KK.out⟩
end
/-- a reading, and two boxes of things -/
structure T7 (w0 w : World) (g q2 q3 : Nat) (S : ByteArray) (s : RdS) (cs : Array Value) (W : World) : Prop where
  d : R7At w0 W g S s
  b2 : Blk W q2 57 zT6
  b3 : Blk W q3 57 cs
  k : Keep (· = g) w W
section
variable {w0 w W W' : World} {g q2 q3 : Nat} {s s' : RdS} {cs : Array Value} {S : ByteArray}
theorem T7.ext (h : T7 w0 w g q2 q3 S s cs W) (y : Ext W W') : T7 w0 w g q2 q3 S s cs W' := ⟨h.d.ext y, h.b2.ext y, h.b3.ext y, h.k.ext y⟩
theorem T7.call (h : T7 w0 w g q2 q3 S s cs W) (t : TQ w0 w g q2 q3) (d : R7At w0 W' g S s') (k : Keep (· = g) W W') : T7 w0 w g q2 q3 S s' cs W' :=
  ⟨d, h.b2.keep k (by have := t.h2; have := t.hg; omega), h.b3.keep k (by have := t.h3; have := t.hg; omega), h.k.trans k⟩
theorem T7.set (h : T7 w0 w g q2 q3 S s cs W) (t : TQ w0 w g q2 q3) (i : Nat) (u : Value) : T7 w0 w g q2 q3 S s (cs.setIfInBounds i u) (W.setCell ⟨q3, i, none⟩ u) :=
  ⟨h.d.far (by have := t.h3; have := t.hg; omega) (Nat.le_trans t.h0 t.h3) i u, h.b2.far (p := ⟨q3, i, none⟩) t.n23 u, h.b3.set i u, h.k.setNew (p := ⟨q3, i, none⟩) t.h3 u⟩
theorem T7.grow (h : T7 w0 w g q2 q3 S s cs W) (t : TQ w0 w g q2 q3) {v : Value} {n : Nat} {c : Nat → Nat → Value} (o : Own W w.heap.size 37 v n 2 c) (k : Keep (fun j => v.ownBlock = some j) W W') : T7 w0 w g q2 q3 S s cs W' :=
  ⟨h.d.grow k (fun e => by obtain ⟨_, c, hb⟩ := o.block e; obtain ⟨u, _, bb, _⟩ := h.d.ex; exact (bb.ne hb (by decide)) rfl) (fun j e => Nat.le_trans t.h0 (o.block e).1),
    h.b2.keep k (fun e => by obtain ⟨_, c, hb⟩ := o.block e; exact (h.b2.ne hb (by decide)) rfl), h.b3.keep k (fun e => by obtain ⟨_, c, hb⟩ := o.block e; exact (h.b3.ne hb (by decide)) rfl), Keep.toBase k h.k (fun j e => (o.block e).1)⟩
end
theorem text_eq {n : Nat} {s : RdS} (h : (takeR n s).2.e = 0) : textR n s = strI (takeR n s).1 := by
  unfold takeR at h ⊢
  unfold textR
  by_cases h0 : s.e = 0
  · rw [if_pos h0] at h ⊢
    by_cases h4 : n ≤ s.b.length
    · rw [if_pos ⟨h0, h4⟩, if_pos h4]
    · rw [if_neg h4] at h
      exact absurd h (by show ¬ (3 : Int) = 0; omega)
  · rw [if_neg h0] at h
    exact absurd h h0
theorem plain3 {cc kd hh : Int} {fi : Bool} {s : RdS} (h : s.e = 0 → fmtK kd = 3 ∧ fi = finK kd) :
    (takeR (countR 1 s).1.toNat (countR 1 s).2).2 = (bodyR cc kd hh s).2 ∧ ((bodyR cc kd hh s).2.e = 0 → (⟨cc, 3, hh, fi, [], textR (countR 1 s).1.toNat (countR 1 s).2⟩ : PT) = (bodyR cc kd hh s).1) := by
  by_cases h0 : s.e = 0
  · obtain ⟨e1, e2⟩ := h h0
    unfold bodyR
    rw [e1, if_pos rfl]
    refine ⟨rfl, fun q => ?_⟩
    show (⟨cc, 3, hh, fi, [], _⟩ : PT) = ⟨cc, 3, hh, finK kd, [], _⟩
    rw [text_eq q, e2]
  · rw [stay_body h0]
    refine ⟨?_, fun q => absurd q h0⟩
    rw [(stay_count h0).1]
    exact stay_take h0
theorem plainN {cc kd hh ft : Int} {fi : Bool} {s : RdS} (h3 : ft ≠ 3) (h : s.e = 0 → ft = fmtK kd ∧ fi = finK kd) :
    (valsR (countR 4 s).1.toNat (countR 4 s).2).2 = (bodyR cc kd hh s).2 ∧ ((bodyR cc kd hh s).2.e = 0 → (⟨cc, ft, hh, fi, (valsR (countR 4 s).1.toNat (countR 4 s).2).1, ByteArray.empty⟩ : PT) = (bodyR cc kd hh s).1) := by
  by_cases h0 : s.e = 0
  · obtain ⟨e1, e2⟩ := h h0
    unfold bodyR
    rw [← e1, if_neg h3]
    refine ⟨rfl, fun q => ?_⟩
    rw [e2]
  · rw [stay_body h0]
    refine ⟨?_, fun q => absurd q h0⟩
    rw [(stay_count h0).1]
    exact stay_vals _ h0
theorem kind_in (kd : Int) (h0 : 0 ≤ kd) (h1 : kd < 4294967296) : ((kd < 1 ∨ 7 < kd ∨ kd = 4) ↔ (fmtK kd < 1 ∨ 3 < fmtK kd)) ∧ (¬ (kd < 1 ∨ 7 < kd ∨ kd = 4) → kd % 4 = fmtK kd ∧ decide (4 < kd) = finK kd) := by
  unfold fmtK finK
  refine ⟨by omega, fun h => ⟨by omega, ?_⟩⟩
  have hb : 1 ≤ kd ∧ kd ≤ 7 ∧ kd ≠ 4 := by omega
  by_cases h4 : 4 < kd
  · have : kd / 4 % 2 * 4 = 4 := by omega
    rw [this]; simp [h4]
  · have : kd / 4 % 2 * 4 = 0 := by omega
    rw [this]; simp [h4]
theorem wrong_ne {x : Int} (hx : x ≠ 0) (s : RdS) : (wrongR x s).e ≠ 0 := by
  unfold wrongR
  split
  · exact hx
  · assumption
theorem i32_wrap (n : Int) : IntKind.i32.wrap n = (n + 2147483648) % 4294967296 - 2147483648 := by
  unfold IntKind.wrap
  simp [IntKind.signed, IntKind.bits]
  omega
theorem band3 (x : Int) (h0 : 0 ≤ x) (h1 : x < 4294967296) : bits .and .u32 x 3 = x % 4 := by
  obtain ⟨n, rfl⟩ := Int.eq_ofNat_of_zero_le h0
  have h := u32_and_nat n 3 (by omega) (by omega)
  rw [show (3 : Nat) = 2 ^ 2 - 1 from rfl, Nat.and_two_pow_sub_one_eq_mod] at h
  have e : ((n % 2 ^ 2 : Nat) : Int) = (n : Int) % 4 := by omega
  rw [← e]; exact h
theorem band1 (x : Int) (h0 : 0 ≤ x) (h1 : x < 4294967296) : bits .and .u32 x 1 = x % 2 := by
  exact u32_and1 x h0 h1
section
variable {w w0 : World} {g : Nat} {s : RdS} {S : ByteArray}
set_option maxRecDepth 100000 in
set_option maxHeartbeats 4000000 in
theorem thing7 (h : R7At w0 w g S s) (hS : S.size ≤ 100000) (hb : okB s.b) (hl : s.b.length ≤ 100000) : Calls Try.prog 73 #[.pointer (some ⟨g, 0, none⟩)] w fun e w' => ∃ vF t, e = .returned (.agg (aggT t vF)) ∧ Own w' w.heap.size 37 vF t.F.length 2 (cF t.F) ∧ ((thingR s).2.e = 0 → t = (thingR s).1) ∧ (in64 t.cls ∧ in64 t.fmt ∧ in64 t.hash ∧ t.B.size ≤ maxLen ∧ ∀ v ∈ t.F, in64 v.n) ∧ R7At w0 w' g S (thingR s).2 ∧ Keep (· = g) w w' := by
  have hgw : g < w.heap.size := by obtain ⟨a, _, b, _⟩ := h.ex; exact b.lt
  have hw0 : w0.heap.size ≤ w.heap.size := h.x.below.size
  have ET : Hid (thingR s = bodyR (numR s).1 (numR (numR s).2).1 (numR (kindR (numR s).2)).1 (numR (kindR (numR s).2)).2) := Lib.hid rfl
  have EK : Hid (kindR (numR s).2 = if fmtK (numR (numR s).2).1 < 1 ∨ 3 < fmtK (numR (numR s).2).1 then wrongR 4 (numR (numR s).2).2 else (numR (numR s).2).2) := Lib.hid rfl
  have hb1 := okB_num hb
  have hb3 := okB_kind hb1
  have hb4 := okB_num hb3
  have hl4 : (numR (kindR (numR s).2)).2.b.length ≤ 100000 := by
    have a1 := num_short s
    have a2 := num_short (numR s).2
    have a3 := num_short (kindR (numR s).2)
    have a4 : (kindR (numR s).2).b.length ≤ (numR s).2.b.length := by unfold kindR; split; rw [wrong_b]; exact num_short _; exact num_short _
    omega
  obtain ⟨c0, c1⟩ := numR_in hb
  obtain ⟨k0, k1⟩ := numR_in hb1
  obtain ⟨h0, h1⟩ := numR_in hb3
  have CN1 := Lib.hid (fun W2 (z : Ext w W2) => word7 (h.ext z) (by omega) hb)
  have CN2 := Lib.hid (fun W2 (d : R7At w0 W2 g S (numR s).2) => word7 d (by omega) hb1)
  have CN3 := Lib.hid (fun W2 (d : R7At w0 W2 g S (kindR (numR s).2)) => word7 d (by omega) hb3)
  have CW := Lib.hid (fun W2 (d : R7At w0 W2 g S (numR (numR s).2).2) => wrong7 d 4)
  have HB4 := Lib.hid hb4
  have KE : Hid ((numR (kindR (numR s).2)).2.e = 0 → (kindR (numR s).2).e = 0) := Lib.hid (fun q => by
    by_cases z : (kindR (numR s).2).e = 0
    · exact z
    · rw [stay_num z] at q; exact q)
  clear h hb hb1 hb3 hb4
  generalize thingR s = tr at *
  generalize (numR (kindR (numR s).2)).2 = s4 at *
  generalize (numR (kindR (numR s).2)).1 = hh at *
  generalize kindR (numR s).2 = s3 at *
  generalize (numR (numR s).2).2 = s2 at *
  generalize (numR (numR s).2).1 = kd at *
  generalize (numR s).2 = s1 at *
  generalize (numR s).1 = cc at *
  obtain ⟨KI, KJ⟩ := kind_in kd k0 k1
  obtain ⟨ft, hft⟩ : ∃ ft, kd % 4 = ft := ⟨_, rfl⟩
  obtain ⟨fi, hfi⟩ : ∃ fi, decide (4 < kd) = fi := ⟨_, rfl⟩
  have hand : bits .and .u32 kd 3 = ft := by rw [band3 kd k0 k1, hft]
  have f0 : 0 ≤ ft ∧ ft < 4 := by omega
  obtain ⟨f0, f1⟩ := f0
  rw [hft, hfi] at KJ
  obtain ⟨bad, hbad⟩ : ∃ b, decide (kd < 1 ∨ 7 < kd ∨ kd = 4) = b := ⟨_, rfl⟩
  have EB : Hid ((kd < 1 ∨ 7 < kd ∨ kd = 4) ↔ bad = true) := Lib.hid (by rw [← hbad]; simp)
  have KIH := Lib.hid KI
  have EF : Hid (s4.e = 0 → ft = fmtK kd ∧ fi = finK kd) := Lib.hid (fun q => KJ (fun z => by
    have e := KE.out q
    rw [EK.out, if_pos (KI.1 z)] at e
    exact wrong_ne (by omega) _ e))
  clear hft KJ KI KE
  have HFI := Lib.hid hfi
  clear hfi
  go_enter Try.func73, Try.ntmps73
  go_upto_region 1 with (fail)
  refine wp_name (fun w1 hw => ?_)
  have b2 : Blk w1 w.heap.size 57 zT6 := Blk.new' hw
  have X1 := Lib.hid ((Ext.refl w).alloc' hw)
  have B2 := Lib.hid b2
  clear hw b2
  go_upto_region 2 with (go_at_call 74; refine (CN1.out _ (X1.out.trans (is_ext _ _))).mono ?_; rintro e w2 ⟨rfl, hd, k2⟩; have D2 := Lib.hid hd; have K2 := Lib.hid (Keep.trans (Keep.of_ext (X1.out.trans (is_ext w1 _)) (· = g)) k2); have B22 := Lib.hid ((B2.out.ext (is_ext w1 _)).keep k2 (by omega)); clear hd k2)
  refine wp_name (fun w3 hw => ?_)
  have x3 : Ext w2 w3 := (Ext.refl w2).alloc' hw
  have T3 : Hid (T7 w0 w g w.heap.size w2.heap.size S s1 #[.int .i64 cc, .int .i64 0, .int .i64 0, .bool false, .slice none 0 0, .string ByteArray.empty] w3) := Lib.hid ⟨D2.out.ext x3, B22.out.ext x3, Blk.new' hw, K2.out.ext x3⟩
  have tq : TQ w0 w g w.heap.size w2.heap.size := ⟨Nat.le_refl _, K2.out.size, Nat.ne_of_lt B22.out.lt, hgw, hw0⟩
  have TQH := Lib.hid tq
  clear hw x3 tq D2 K2 B22 B2 X1 CN1
  generalize w2.heap.size = q3 at *
  generalize hq2 : w.heap.size = q2 at *
  have Q2 := Lib.hid hq2
  clear hq2
  obtain ⟨r1, r2, r3⟩ := T3.out.b3.rules
  go_upto_region 3 with (go_at_call 74; refine (CN2.out _ (T3.out.d.ext (is_ext _ _))).mono ?_; rintro e w4 ⟨rfl, hd, k4⟩; have T4 := Lib.hid ((T3.out.ext (is_ext w3 _)).call TQH.out hd k4); clear hd k4 r1 r2 r3)
  go_cut [23] from 14 to 23 (fun v23 wx => v23 = .bool bad ∧ wx = w4)
  case first =>
    by_cases hlo : kd < 1
    · have e1 : bad = true := by rw [← hbad]; simp [hlo]
      subst e1
      clear hbad
      go_wp2_with fail
      go_meet
      exact ⟨rfl, rfl⟩
    · by_cases hhi : 7 < kd
      · have e1 : bad = true := by rw [← hbad]; simp [hhi]
        subst e1
        clear hbad
        go_wp2_with fail
        go_meet
        exact ⟨rfl, rfl⟩
      · by_cases h4 : kd = 4
        · have e1 : bad = true := by rw [← hbad]; simp [h4]
          subst e1
          have h4b : (kd == 4) = true := by simp [h4]
          clear hbad h4
          go_wp2_with fail
          go_meet
          exact ⟨rfl, rfl⟩
        · have e1 : bad = false := by rw [← hbad]; simp [hlo, hhi, h4]
          have h4b : (kd == 4) = false := beq_eq_false_iff_ne.2 h4
          subst e1
          clear hbad h4
          go_wp2_with fail
          go_meet
          exact ⟨rfl, rfl⟩
  case rest =>
  obtain ⟨rfl, hwc⟩ := hcut
  subst hwc
  clear hbad
  go_upto_if 23 with (fail)
  go_cut [24] from 25 to 25 (fun v24 wx => T7 w0 w g q2 q3 S s3 #[.int .i64 cc, .int .i64 0, .int .i64 0, .bool false, .slice none 0 0, .string ByteArray.empty] wx)
  case first =>
    cases bad with
    | true =>
      have ES : Hid (s3 = wrongR 4 s2) := Lib.hid (by rw [EK.out, if_pos (KIH.out.1 (EB.out.2 rfl))])
      go_wp2_with (go_at_call 76; refine (CW.out _ (T4.out.d.ext (is_ext _ _))).mono ?_; rintro e w6 ⟨rfl, hd, k6⟩; have T6 := Lib.hid ((T4.out.ext (is_ext _ _)).call TQH.out hd k6); clear hd k6)
      go_meet
      rw [ES.out]; exact T6.out
    | false =>
      have ES : Hid (s3 = s2) := Lib.hid (by rw [EK.out, if_neg (fun h => absurd (EB.out.1 (KIH.out.2 h)) (by decide))])
      go_wp2_with fail
      go_meet
      rw [ES.out]; exact T4.out
  case rest =>
    have T5 := Lib.hid hcut
    clear hcut T4 T3 EK CW EB KIH
    obtain ⟨r1, r2, r3⟩ := T5.out.b3.rules
    have hfi := HFI.out
    have ftw : IntKind.i64.wrap ft = ft := IntWalk.i64_in _ (by omega)
    go_upto_region 6 with (fail)
    refine wp_name (fun w6 hw => ?_)
    have T6 : Hid (T7 w0 w g q2 q3 S s3 #[.int .i64 cc, .int .i64 ft, .int .i64 0, .bool fi, .slice none 0 0, .string ByteArray.empty] w6) := Lib.hid (by
      rw [hw]
      have := (T5.out.set TQH.out 1 (.int .i64 ft)).set TQH.out 3 (.bool fi)
      simpa using this)
    clear hw r1 r2 r3 hand hfi
    obtain ⟨r1, r2, r3⟩ := T6.out.b3.rules
    have hhw : IntKind.i64.wrap hh = hh := IntWalk.i64_in _ (by omega)
    go_upto_region 7 with (go_at_call 74; refine (CN3.out _ (T6.out.d.ext (is_ext _ _))).mono ?_; rintro e w7 ⟨rfl, hd, k7⟩; have T7' := Lib.hid ((T6.out.ext (is_ext _ _)).call TQH.out hd k7); clear hd k7 r1 r2 r3; obtain ⟨r1, r2, r3⟩ := T7'.out.b3.rules)
    refine wp_name (fun w8 hw => ?_)
    have T8 : Hid (T7 w0 w g q2 q3 S s4 #[.int .i64 cc, .int .i64 ft, .int .i64 hh, .bool fi, .slice none 0 0, .string ByteArray.empty] w8) := Lib.hid (by
      rw [hw]
      have := T7'.out.set TQH.out 2 (.int .i64 hh)
      simpa using this)
    clear hw T5 T6 T7' r1 r2 r3 CN3
    obtain ⟨r1, r2, r3⟩ := T8.out.b3.rules
    have cc64 : in64 cc := by unfold in64; omega
    have ft64 : in64 ft := by unfold in64; omega
    have hh64 : in64 hh := by unfold in64; omega
    have C64 := Lib.hid (And.intro cc64 (And.intro ft64 hh64))
    clear cc64 ft64 hh64
    by_cases h3 : ft = 3
    · have h3b : (ft == 3) = true := by simp [h3]
      have PL := plain3 (cc := cc) (hh := hh) (kd := kd) (fi := fi) (s := s4) (fun q => ⟨by rw [← (EF.out q).1, h3], (EF.out q).2⟩)
      rw [← ET.out] at PL
      have CC := Lib.hid (fun W2 (d : R7At w0 W2 g S s4) => count7 d (by omega) HB4.out 1 (by omega) (by omega))
      obtain ⟨n0, n1⟩ := countR_in (each := 1) HB4.out
      obtain ⟨n, hn⟩ := Int.eq_ofNat_of_zero_le n0
      rw [hn] at CC PL
      rw [Int.toNat_natCast] at PL
      have CT := Lib.hid (fun W2 (d : R7At w0 W2 g S (countR 1 s4).2) => text7 d (by omega) n (by omega))
      have TS : Hid ((textR n (countR 1 s4).2).size ≤ maxLen) := Lib.hid (by
        have a1 := count_short 1 s4
        unfold textR maxLen
        split
        · rw [strI_len, List.length_take]; omega
        · exact Nat.zero_le _)
      have PLH := Lib.hid PL
      have H3 := Lib.hid h3
      have n23 : q2 ≠ q3 := TQH.out.n23
      have n32 : q3 ≠ q2 := fun e => n23 e.symm
      clear hn n0 n1 ET EF h3 PL
      generalize (countR 1 s4).2 = s5 at *
      generalize (takeR n s5).2 = s6 at *
      generalize textR n s5 = bs at *
      go_wp2_with ((first | (go_at_call 72; refine (CC.out _ (T8.out.d.ext (is_ext _ _))).mono ?_; rintro e w9 ⟨rfl, hd, k9⟩; have T9 := Lib.hid ((T8.out.ext (is_ext _ _)).call TQH.out hd k9); clear hd k9 r1 r2 r3; obtain ⟨r1, r2, r3⟩ := T9.out.b3.rules) | (go_at_call 71; refine (CT.out _ (T9.out.d.ext (is_ext _ _))).mono ?_; rintro e w10 ⟨rfl, hd, k10⟩; have T10 := Lib.hid ((T9.out.ext (is_ext _ _)).call TQH.out hd k10); clear hd k10 r1 r2 r3; obtain ⟨r1, r2, r3⟩ := T10.out.b3.rules; obtain ⟨u1, u2, u3⟩ := T10.out.b2.rules; unfold zT6 at u1)))
      have T11 : Hid (T7 w0 w g q2 q3 S s6 #[.int .i64 cc, .int .i64 ft, .int .i64 hh, .bool fi, .slice none 0 0, .string bs] (w10.setCell ⟨q3, 5, none⟩ (.string bs))) := Lib.hid (by
        have := T10.out.set TQH.out 5 (.string bs)
        simpa using this)
      have hn2 : q2 ≠ g := by have := TQH.out.h2; have := TQH.out.hg; omega
      have hq2 : w0.heap.size ≤ q2 := Nat.le_trans TQH.out.h0 TQH.out.h2
      refine bodyPost_ret (v := .agg #[.int .i64 cc, .int .i64 ft, .int .i64 hh, .bool fi, .slice none 0 0, .string bs]) (by simp [results, Try.results73, go_sem, u1] <;> rfl) rfl ?_
      obtain ⟨p1, p2⟩ := PLH.out
      refine ⟨.slice none 0 0, ⟨cc, ft, hh, fi, [], bs⟩, rfl, World.ownsRow_nil _ _ _ _, (fun q => by rw [← p2 q, H3.out]), ⟨C64.out.1, C64.out.2.1, C64.out.2.2, TS.out, fun v hv => absurd hv List.not_mem_nil⟩, by rw [← p1]; exact ((((((T11.out.d.far hn2 hq2 0 (.int .i64 cc)).far hn2 hq2 1 (.int .i64 ft)).far hn2 hq2 2 (.int .i64 hh)).far hn2 hq2 3 (.bool fi)).far hn2 hq2 4 (.slice none 0 0)).far hn2 hq2 5 (.string bs)), ((((((T11.out.k.setNew (p := ⟨q2, 0, none⟩) TQH.out.h2 (.int .i64 cc)).setNew (p := ⟨q2, 1, none⟩) TQH.out.h2 (.int .i64 ft)).setNew (p := ⟨q2, 2, none⟩) TQH.out.h2 (.int .i64 hh)).setNew (p := ⟨q2, 3, none⟩) TQH.out.h2 (.bool fi)).setNew (p := ⟨q2, 4, none⟩) TQH.out.h2 (.slice none 0 0)).setNew (p := ⟨q2, 5, none⟩) TQH.out.h2 (.string bs))⟩
    · have h3b : (ft == 3) = false := beq_eq_false_iff_ne.2 h3
      have PL := plainN (cc := cc) (hh := hh) (kd := kd) (fi := fi) (s := s4) h3 EF.out
      rw [← ET.out] at PL
      have CC := Lib.hid (fun W2 (d : R7At w0 W2 g S s4) => count7 d (by omega) HB4.out 4 (by omega) (by omega))
      obtain ⟨n0, n1⟩ := countR_in (each := 4) HB4.out
      have hle := count_le (each := 4) (by omega) s4
      have hsh := count_short 4 s4
      have OKc := Lib.hid (okB_count (each := 4) HB4.out)
      obtain ⟨n, hn⟩ := Int.eq_ofNat_of_zero_le n0
      rw [hn] at CC PL hle
      rw [Int.toNat_natCast] at PL
      have PLH := Lib.hid PL
      have hn1 : n ≤ 100000 := by omega
      have n23 : q2 ≠ q3 := TQH.out.n23
      have n32 : q3 ≠ q2 := fun e => n23 e.symm
      obtain ⟨iV, hV, hV0, hV1, hV2⟩ := info_parts infoV7
      have VS := Lib.hid (vals_stay (countR 4 s4).2)
      clear hn n0 n1 hle hsh ET EF h3 PL
      generalize (countR 4 s4).2 = s5 at *
      go_upto_region 11 with (go_at_call 72; refine (CC.out _ (T8.out.d.ext (is_ext _ _))).mono ?_; rintro e w9 ⟨rfl, hd, k9⟩; have T9 := Lib.hid ((T8.out.ext (is_ext _ _)).call TQH.out hd k9); clear hd k9 r1 r2 r3)
      go_wp2_with fail
      go_loopw [6] (fun iv wr => ∃ k : Nat, k ≤ n ∧ iv = .int .i64 k ∧ ∃ A c, T7 w0 w g q2 q3 S (valsR k s5).2 #[.int .i64 cc, .int .i64 ft, .int .i64 hh, .bool fi, .slice A k c, .string ByteArray.empty] wr ∧ Own wr w.heap.size 37 (.slice A k c) k 2 (cF (valsR k s5).1)) (fun iv _ => n - (intOf iv).toNat)
      case atStart => exact ⟨0, Nat.zero_le _, rfl, none, 0, T9.out, World.ownsRow_nil _ _ _ _⟩
      case round =>
        clear T8 T9
        obtain ⟨k, hk, rfl, A, c, C, O⟩ := hrel
        have CH := Lib.hid C
        have OH := Lib.hid O
        have V64 := Lib.hid (vals64 k OKc.out)
        obtain ⟨a, ha, bb, _⟩ := C.d.ex
        have BB := Lib.hid bb
        obtain ⟨v1, v2, v3⟩ := bb.rules
        obtain ⟨r1, r2, r3⟩ := C.b3.rules
        clear C O bb
        by_cases hlt : k < n
        · have kI : (k : Int) < (n : Int) := by omega
          by_cases he : (valsR k s5).2.e = 0
          · have hs7 : okB (valsR k s5).2.b := okB_vals k OKc.out
            obtain ⟨z0, z1⟩ := numR_in hs7
            have CN := Lib.hid (fun W2 (z : Ext wr W2) => word7 (CH.out.d.ext z) (by omega) hs7)
            have LK := Lib.hid (vals_len k s5)
            have EN : Hid (valsR (k + 1) s5 = ((valsR k s5).1 ++ [(valR (valsR k s5).2).1], (valR (valsR k s5).2).2)) := Lib.hid rfl
            have EUV : Hid ((valR (valsR k s5).2).1 = if isIntB (numR (valsR k s5).2).1 = true then ⟨false, intOfW (numR (valsR k s5).2).1⟩ else ⟨true, refOfW (numR (valsR k s5).2).1⟩) := Lib.hid rfl
            have ES7 : Hid ((valR (valsR k s5).2).2 = (numR (valsR k s5).2).2) := Lib.hid rfl
            rw [ES7.out] at EN
            rw [he] at v1
            clear hs7 he ES7
            generalize (numR (valsR k s5).2).2 = s7 at *
            generalize (valR (valsR k s5).2).1 = u at *
            generalize (numR (valsR k s5).2).1 = nv at *
            have hand1 : bits .and .u32 nv 1 = nv % 2 := band1 nv z0 z1
            have hwr := Lib.hid CH.out.k.size
            go_upto_region 15 with (go_at_call 74; refine (CN.out _ (is_ext _ _)).mono ?_; rintro e w4 ⟨rfl, hd, k4⟩; have T4 := Lib.hid ((CH.out.ext (is_ext wr _)).call TQH.out hd k4); have O4 := Lib.hid (Own.keep (OH.out.ext (is_ext wr _)) k4 (BB.out.ext (is_ext wr _)) (by decide)); clear hd k4 r1 r2 r3 v1 v2 v3; obtain ⟨r1, r2, r3⟩ := T4.out.b3.rules)
            by_cases hod : nv % 2 = 1
            · have hodb : (nv % 2 == 1) = true := by simp [hod]
              obtain ⟨zz, hzz⟩ : ∃ z, intOfW nv = z := ⟨_, rfl⟩
              obtain ⟨yy, hyy⟩ : ∃ y, IntKind.i32.wrap nv = y := ⟨_, rfl⟩
              have hyz : yy / 2 = zz := by
                rw [← hzz, ← hyy]
                unfold intOfW
                rw [if_pos hod]
                by_cases hb : nv < 2147483648
                · rw [if_pos hb, IntWalk.i32_in _ (by omega)]
                · have e : IntKind.i32.wrap nv = nv - 4294967296 := by
                    rw [i32_wrap]
                    omega
                  rw [if_neg hb, e]
              have hyb : -2147483648 ≤ yy ∧ yy < 2147483648 := by
                rw [← hyy]
                rw [i32_wrap]
                omega
              have hzw : IntKind.i64.wrap zz = zz := IntWalk.i64_in _ (by omega)
              have HZZ := Lib.hid hzz
              clear hzz
              have O5a : Hid (Own (w4.alloc (.cells #[.bool false, .int .i64 zz] 37)) w.heap.size 37 (.slice A k c) k 2 (cF (valsR k s5).1)) := Lib.hid (O4.out.alloc _)
              have O5 : Hid ((w4.alloc (.cells #[.bool false, .int .i64 zz] 37)).ownsRow w.heap.size 37 2 (.slice A k c) k (flat k 2 (cF (valsR k s5).1))) := Lib.hid O5a.out
              have T5 := Lib.hid (T4.out.ext ((Ext.refl w4).alloc (.cells #[.bool false, .int .i64 zz] 37)))
              have HZ4 : Hid (w.heap.size ≤ (w4.alloc (.cells #[.bool false, .int .i64 zz] 37)).heap.size) := Lib.hid (by have := T5.out.k.size; exact this)
              have EU : Hid (u = ⟨false, zz⟩) := Lib.hid (by rw [EUV.out]; unfold isIntB; rw [if_pos (by simp [hod]), ← HZZ.out])
              clear hod
              go_wp2_with ((at_builtin; refine wpList_append_lies _ rfl _ _ _ rfl w.heap.size 37 iV (.agg #[.bool false, .int .i64 0]) 2 16 Try.underlying39 hV hV0 hV1 hV2 rfl (by decide) (.slice A k c) k (flat k 2 (cF (valsR k s5).1)) (by rfl) O5.out ⟨w4.heap.size, 0, none⟩ 1 1 [.bool false, .int .i64 zz] (by rfl) (by rfl) (World.news_of_block (heap_alloc_new w4 _)) (by simp [Value.oneCell']) (by omega) (by unfold maxLen; omega) (by omega) HZ4.out (w4.heap.size + 1) (by simp) ?_; intro gg cd w6 o6 g6 hat6 hlt6; have KG := grow_keep g6; have T6 := Lib.hid (T4.out.grow TQH.out O4.out KG); have O6 := Lib.hid (own_vpush6 (u := ⟨false, zz⟩) LK.out o6); clear o6 g6 hat6 KG r1 r2 r3; obtain ⟨r1, r2, r3⟩ := T6.out.b3.rules))
              have T9 : Hid (T7 w0 w g q2 q3 S s7 #[.int .i64 cc, .int .i64 ft, .int .i64 hh, .bool fi, .slice (some ⟨gg, 0, none⟩) (k + 1) cd, .string ByteArray.empty] (w6.setCell ⟨q3, 4, none⟩ (.slice (some ⟨gg, 0, none⟩) (k + 1) cd))) := Lib.hid (by
                have := T6.out.set TQH.out 4 (.slice (some ⟨gg, 0, none⟩) (k + 1) cd)
                simpa using this)
              have O9 : Hid (Own (w6.setCell ⟨q3, 4, none⟩ (.slice (some ⟨gg, 0, none⟩) (k + 1) cd)) w.heap.size 37 (.slice (some ⟨gg, 0, none⟩) (k + 1) cd) (k + 1) 2 (cF ((valsR k s5).1 ++ [⟨false, zz⟩]))) := Lib.hid (O6.out.kt (kt_set T6.out.b3 4 _) (by decide))
              clear r1 r2 r3
              go_roundw
              case rel => exact ⟨k + 1, by omega, by go_num, _, _, by rw [EN.out]; exact T9.out, by rw [EN.out, EU.out]; exact O9.out⟩
              case measure => simp [intOf] <;> omega
            · have hodb : (nv % 2 == 1) = false := beq_eq_false_iff_ne.2 hod
              obtain ⟨zz, hzz⟩ : ∃ z, refOfW nv = z := ⟨_, rfl⟩
              have hyz : nv / 2 = zz := by
                rw [← hzz]
                unfold refOfW
                rw [if_neg hod]
              have hzw : IntKind.i64.wrap zz = zz := IntWalk.i64_in _ (by omega)
              have HZZ := Lib.hid hzz
              clear hzz
              have O5a : Hid (Own (w4.alloc (.cells #[.bool true, .int .i64 zz] 37)) w.heap.size 37 (.slice A k c) k 2 (cF (valsR k s5).1)) := Lib.hid (O4.out.alloc _)
              have O5 : Hid ((w4.alloc (.cells #[.bool true, .int .i64 zz] 37)).ownsRow w.heap.size 37 2 (.slice A k c) k (flat k 2 (cF (valsR k s5).1))) := Lib.hid O5a.out
              have T5 := Lib.hid (T4.out.ext ((Ext.refl w4).alloc (.cells #[.bool true, .int .i64 zz] 37)))
              have HZ4 : Hid (w.heap.size ≤ (w4.alloc (.cells #[.bool true, .int .i64 zz] 37)).heap.size) := Lib.hid (by have := T5.out.k.size; exact this)
              have EU : Hid (u = ⟨true, zz⟩) := Lib.hid (by rw [EUV.out]; unfold isIntB; rw [if_neg (by simp [hod]), ← HZZ.out])
              clear hod
              go_wp2_with ((at_builtin; refine wpList_append_lies _ rfl _ _ _ rfl w.heap.size 37 iV (.agg #[.bool false, .int .i64 0]) 2 16 Try.underlying39 hV hV0 hV1 hV2 rfl (by decide) (.slice A k c) k (flat k 2 (cF (valsR k s5).1)) (by rfl) O5.out ⟨w4.heap.size, 0, none⟩ 1 1 [.bool true, .int .i64 zz] (by rfl) (by rfl) (World.news_of_block (heap_alloc_new w4 _)) (by simp [Value.oneCell']) (by omega) (by unfold maxLen; omega) (by omega) HZ4.out (w4.heap.size + 1) (by simp) ?_; intro gg cd w6 o6 g6 hat6 hlt6; have KG := grow_keep g6; have T6 := Lib.hid (T4.out.grow TQH.out O4.out KG); have O6 := Lib.hid (own_vpush6 (u := ⟨true, zz⟩) LK.out o6); clear o6 g6 hat6 KG r1 r2 r3; obtain ⟨r1, r2, r3⟩ := T6.out.b3.rules))
              have T9 : Hid (T7 w0 w g q2 q3 S s7 #[.int .i64 cc, .int .i64 ft, .int .i64 hh, .bool fi, .slice (some ⟨gg, 0, none⟩) (k + 1) cd, .string ByteArray.empty] (w6.setCell ⟨q3, 4, none⟩ (.slice (some ⟨gg, 0, none⟩) (k + 1) cd))) := Lib.hid (by
                have := T6.out.set TQH.out 4 (.slice (some ⟨gg, 0, none⟩) (k + 1) cd)
                simpa using this)
              have O9 : Hid (Own (w6.setCell ⟨q3, 4, none⟩ (.slice (some ⟨gg, 0, none⟩) (k + 1) cd)) w.heap.size 37 (.slice (some ⟨gg, 0, none⟩) (k + 1) cd) (k + 1) 2 (cF ((valsR k s5).1 ++ [⟨true, zz⟩]))) := Lib.hid (O6.out.kt (kt_set T6.out.b3 4 _) (by decide))
              clear r1 r2 r3
              go_roundw
              case rel => exact ⟨k + 1, by omega, by go_num, _, _, by rw [EN.out]; exact T9.out, by rw [EN.out, EU.out]; exact O9.out⟩
              case measure => simp [intOf] <;> omega
          · have e0 : ((valsR k s5).2.e == 0) = false := beq_eq_false_iff_ne.2 he
            have ES : Hid ((valsR n s5).2 = (valsR k s5).2) := Lib.hid (VS.out k n hk he)
            have HE := Lib.hid he
            clear he
            have hn2 : q2 ≠ g := by have := TQH.out.h2; have := TQH.out.hg; omega
            have hq2 : w0.heap.size ≤ q2 := Nat.le_trans TQH.out.h0 TQH.out.h2
            obtain ⟨u1, u2, u3⟩ := CH.out.b2.rules
            unfold zT6 at u1
            go_wp2_with fail
            have KP := ((((((Keep.refl (· = q2) wr).setCell (p := ⟨q2, 0, none⟩) rfl (.int .i64 cc)).setCell (p := ⟨q2, 1, none⟩) rfl (.int .i64 ft)).setCell (p := ⟨q2, 2, none⟩) rfl (.int .i64 hh)).setCell (p := ⟨q2, 3, none⟩) rfl (.bool fi)).setCell (p := ⟨q2, 4, none⟩) rfl (.slice A k c)).setCell (p := ⟨q2, 5, none⟩) rfl (.string ByteArray.empty)
            have KPT : KT [57] wr _ := Keep.mono KP (fun j e => by subst e; exact ⟨_, _, by simp, CH.out.b2⟩)
            have OF := OH.out.kt KPT (by decide)
            refine bodyPost_ret (v := .agg #[.int .i64 cc, .int .i64 ft, .int .i64 hh, .bool fi, .slice A k c, .string ByteArray.empty]) (by simp [results, Try.results73, go_sem, u1] <;> rfl) rfl ?_
            obtain ⟨p1, p2⟩ := PLH.out
            refine ⟨.slice A k c, ⟨cc, ft, hh, fi, (valsR k s5).1, ByteArray.empty⟩, rfl, by show Own _ _ _ _ (valsR k s5).1.length 2 _; rw [vals_len k s5]; exact OF, (fun q => absurd (by rw [← ES.out, p1]; exact q) HE.out), ⟨C64.out.1, C64.out.2.1, C64.out.2.2, Nat.zero_le _, V64.out⟩, by rw [← p1, ES.out]; exact ((((((CH.out.d.far hn2 hq2 0 (.int .i64 cc)).far hn2 hq2 1 (.int .i64 ft)).far hn2 hq2 2 (.int .i64 hh)).far hn2 hq2 3 (.bool fi)).far hn2 hq2 4 (.slice A k c)).far hn2 hq2 5 (.string ByteArray.empty)), ((((((CH.out.k.setNew (p := ⟨q2, 0, none⟩) TQH.out.h2 (.int .i64 cc)).setNew (p := ⟨q2, 1, none⟩) TQH.out.h2 (.int .i64 ft)).setNew (p := ⟨q2, 2, none⟩) TQH.out.h2 (.int .i64 hh)).setNew (p := ⟨q2, 3, none⟩) TQH.out.h2 (.bool fi)).setNew (p := ⟨q2, 4, none⟩) TQH.out.h2 (.slice A k c)).setNew (p := ⟨q2, 5, none⟩) TQH.out.h2 (.string ByteArray.empty))⟩
        · obtain rfl : k = n := by omega
          have hn2 : q2 ≠ g := by have := TQH.out.h2; have := TQH.out.hg; omega
          have hq2 : w0.heap.size ≤ q2 := Nat.le_trans TQH.out.h0 TQH.out.h2
          obtain ⟨u1, u2, u3⟩ := CH.out.b2.rules
          unfold zT6 at u1
          go_wp2_with fail
          have KP := ((((((Keep.refl (· = q2) wr).setCell (p := ⟨q2, 0, none⟩) rfl (.int .i64 cc)).setCell (p := ⟨q2, 1, none⟩) rfl (.int .i64 ft)).setCell (p := ⟨q2, 2, none⟩) rfl (.int .i64 hh)).setCell (p := ⟨q2, 3, none⟩) rfl (.bool fi)).setCell (p := ⟨q2, 4, none⟩) rfl (.slice A k c)).setCell (p := ⟨q2, 5, none⟩) rfl (.string ByteArray.empty)
          have KPT : KT [57] wr _ := Keep.mono KP (fun j e => by subst e; exact ⟨_, _, by simp, CH.out.b2⟩)
          have OF := OH.out.kt KPT (by decide)
          refine bodyPost_ret (v := .agg #[.int .i64 cc, .int .i64 ft, .int .i64 hh, .bool fi, .slice A k c, .string ByteArray.empty]) (by simp [results, Try.results73, go_sem, u1] <;> rfl) rfl ?_
          obtain ⟨p1, p2⟩ := PLH.out
          refine ⟨.slice A k c, ⟨cc, ft, hh, fi, (valsR k s5).1, ByteArray.empty⟩, rfl, by show Own _ _ _ _ (valsR k s5).1.length 2 _; rw [vals_len k s5]; exact OF, (fun q => p2 q), ⟨C64.out.1, C64.out.2.1, C64.out.2.2, Nat.zero_le _, V64.out⟩, by rw [← p1]; exact ((((((CH.out.d.far hn2 hq2 0 (.int .i64 cc)).far hn2 hq2 1 (.int .i64 ft)).far hn2 hq2 2 (.int .i64 hh)).far hn2 hq2 3 (.bool fi)).far hn2 hq2 4 (.slice A k c)).far hn2 hq2 5 (.string ByteArray.empty)), ((((((CH.out.k.setNew (p := ⟨q2, 0, none⟩) TQH.out.h2 (.int .i64 cc)).setNew (p := ⟨q2, 1, none⟩) TQH.out.h2 (.int .i64 ft)).setNew (p := ⟨q2, 2, none⟩) TQH.out.h2 (.int .i64 hh)).setNew (p := ⟨q2, 3, none⟩) TQH.out.h2 (.bool fi)).setNew (p := ⟨q2, 4, none⟩) TQH.out.h2 (.slice A k c)).setNew (p := ⟨q2, 5, none⟩) TQH.out.h2 (.string ByteArray.empty))⟩
end
end Go.Proofs.Ytadhkmplhgcgkaa.World
