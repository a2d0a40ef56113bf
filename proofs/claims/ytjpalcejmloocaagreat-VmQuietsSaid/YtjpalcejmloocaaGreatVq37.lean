/-
  Read6, as one text (a claim has at most 60 files).
-/
import Derived.Test.YtjpalcejmloocaaGreatVq36
import Derived.Test.YtjpalcejmloocaaGreatVq28
import Derived.Deep.AppendLies
import Derived.Deep.RegionHeldLaw
namespace Go.Proofs.YtjpalcejmloocaaGreat.World
open Go.RowKit Go.Proofs.YtjpalcejmloocaaGreat.Plain
set_option linter.unusedVariables false
attribute [local go_sem ↓] Go.wp_at_zero Go.wp_at_succ
theorem infoV7 : (Tryz.prog.info? 38).map (fun i => (i.zero, i.size, i.bytes)) = some (some (.agg #[.bool false, .int .i64 0]), 2, 16) := by kernel_rfl
theorem vAt_push6 (A : List PV) (u : PV) (q : Nat) (hq : q < A.length + 1) : vAt (A ++ [u]) q = if q = A.length then u else vAt A q := by
  unfold vAt
  by_cases e : q = A.length
  · subst e; rw [if_pos rfl, List.getD_eq_getElem?_getD, List.getElem?_append_right (Nat.le_refl _)]; simp
  · rw [if_neg e, List.getD_eq_getElem?_getD, List.getElem?_append_left (by omega), List.getD_eq_getElem?_getD]
theorem own_vpush6 {w : World} {base n : Nat} {v : Value} {A : List PV} {u : PV} (hn : A.length = n) (h : w.ownsRow base 38 2 v (n + 1) (flat n 2 (cF A) ++ [.bool u.obj, .int .i64 u.n])) : Own w base 38 v (n + 1) 2 (cF (A ++ [u])) := by
  subst hn
  have e1 : (List.range 2).map (cF (A ++ [u]) A.length) = [.bool u.obj, .int .i64 u.n] := by
    rw [show List.range 2 = [0, 1] from rfl]
    simp only [List.map_cons, List.map_nil, cF, cV, vAt_push6 A u A.length (by omega), if_true]
  have e2 : flat A.length 2 (cF (A ++ [u])) = flat A.length 2 (cF A) := flat_congr (fun i j hi => by simp only [cF]; rw [vAt_push6 A u i (by omega), if_neg (by omega)])
  show w.ownsRow _ _ _ _ _ _
  rw [flat_succ, e1, e2]
  exact h
def zT6 : Array Value := #[.int .i64 0, .int .i64 0, .int .i64 0, .bool false, .slice none 0 0, .string ByteArray.empty]
/-- a reading, and two boxes of things -/
structure TB (w0 w : World) (g q2 q3 : Nat) (s : RdS) (cs : Array Value) (W : World) : Prop where
  d : RdAt w0 W g s
  b2 : Blk W q2 49 zT6
  b3 : Blk W q3 49 cs
  k : Keep (· = g) w W
structure TQ (w0 w : World) (g q2 q3 : Nat) : Prop where
  h2 : w.heap.size ≤ q2
  h3 : w.heap.size ≤ q3
  n23 : q2 ≠ q3
  hg : g < w.heap.size
  h0 : w0.heap.size ≤ w.heap.size
section
variable {w0 w W W' : World} {g q2 q3 : Nat} {s s' : RdS} {cs : Array Value}
theorem TB.ext (h : TB w0 w g q2 q3 s cs W) (y : Ext W W') : TB w0 w g q2 q3 s cs W' := ⟨h.d.ext y, h.b2.ext y, h.b3.ext y, h.k.ext y⟩
theorem TB.call (h : TB w0 w g q2 q3 s cs W) (t : TQ w0 w g q2 q3) (d : RdAt w0 W' g s') (k : Keep (· = g) W W') : TB w0 w g q2 q3 s' cs W' :=
  ⟨d, h.b2.keep k (by have := t.h2; have := t.hg; omega), h.b3.keep k (by have := t.h3; have := t.hg; omega), h.k.trans k⟩
theorem TB.set (h : TB w0 w g q2 q3 s cs W) (t : TQ w0 w g q2 q3) (i : Nat) (u : Value) : TB w0 w g q2 q3 s (cs.setIfInBounds i u) (W.setCell ⟨q3, i, none⟩ u) :=
  ⟨h.d.far (by have := t.h3; have := t.hg; omega) (Nat.le_trans t.h0 t.h3) i u, h.b2.far (p := ⟨q3, i, none⟩) t.n23 u, h.b3.set i u, h.k.setNew (p := ⟨q3, i, none⟩) t.h3 u⟩
theorem TB.grow (h : TB w0 w g q2 q3 s cs W) (t : TQ w0 w g q2 q3) {v : Value} {n : Nat} {c : Nat → Nat → Value} (o : Own W w.heap.size 38 v n 2 c) (k : Keep (fun j => v.ownBlock = some j) W W') : TB w0 w g q2 q3 s cs W' :=
  ⟨h.d.grow k (fun e => by obtain ⟨_, c, hb⟩ := o.block e; obtain ⟨u, bb, _⟩ := h.d.ex; exact (bb.ne hb (by decide)) rfl) (fun j e => Nat.le_trans t.h0 (o.block e).1),
    h.b2.keep k (fun e => by obtain ⟨_, c, hb⟩ := o.block e; exact (h.b2.ne hb (by decide)) rfl), h.b3.keep k (fun e => by obtain ⟨_, c, hb⟩ := o.block e; exact (h.b3.ne hb (by decide)) rfl), Keep.toBase k h.k (fun j e => (o.block e).1)⟩
end
structure RV (w0 w : World) (g q2 q3 : Nat) (sA sB : RdS) (cs0 : Array Value) (A : Option Addr) (k c : Nat) (l : List PV) (uo : Bool) (un : Int) (L : Nat → Bool) (s : Nat → Value) (W : World) : Prop where
  dA : L 3 = false → RdAt w0 W g sA
  dB : L 3 = true → RdAt w0 W g sB
  b2 : Blk W q2 49 zT6
  kp : Keep (· = g) w W
  b3 : L 7 = false → Blk W q3 49 cs0
  o : L 5 = false → Own W w.heap.size 38 (.slice A k c) k 2 (cF l)
  k4 : L 4 = true → L 3 = true
  k5 : L 5 = true → L 4 = true
  k51 : L 5 = true → L 1 = true
  k7 : L 7 = true → L 5 = true
  p0 : L 0 = true → s 47 = .pointer (some ⟨q3, 4, none⟩)
  l1 : L 1 = true → s 48 = .slice A k c
  m2 : L 2 = true → s 49 = .pointer (some ⟨g, 0, none⟩)
  v3 : L 3 = true → s 50 = .agg #[.bool uo, .int .i64 un]
  b4 : L 4 = true → L 5 = false → ∃ bb, s 51 = .slice (some ⟨bb, 0, none⟩) 1 1 ∧ Blk W bb 38 #[.bool uo, .int .i64 un]
  a5 : L 5 = true → ∃ gd cd, s 52 = .slice (some ⟨gd, 0, none⟩) (k + 1) cd ∧ Own W w.heap.size 38 (.slice (some ⟨gd, 0, none⟩) (k + 1) cd) (k + 1) 2 (cF (l ++ [⟨uo, un⟩]))
  p6 : L 6 = true → s 53 = .pointer (some ⟨q3, 4, none⟩)
  e7 : L 7 = true → Blk W q3 49 (cs0.setIfInBounds 4 (s 52))
def frRV (g q2 q3 n k : Nat) (u s : Nat → Value) : Act := { tmps := #[.pointer (some ⟨g, 0, none⟩), u 1, .pointer (some ⟨q2, 0, none⟩), .pointer (some ⟨q3, 0, none⟩), u 4, u 5, u 6, u 7, u 8, u 9, u 10, u 11, u 12, u 13, u 14, u 15, u 16, u 17, u 18, u 19, u 20, u 21, u 22, u 23, u 24, u 25, u 26, u 27, u 28, u 29, u 30, u 31, u 32, u 33, u 34, u 35, u 36, u 37, u 38, u 39, u 40, u 41, u 42, u 43, .int .i64 (n : Int), .int .i64 (k : Int), u 46, s 47, s 48, s 49, s 50, s 51, s 52, s 53, u 54, u 55], defers := [] }
def RVInv (w0 w : World) (g q2 q3 : Nat) (sA sB : RdS) (cs0 : Array Value) (A : Option Addr) (k c : Nat) (l : List PV) (uo : Bool) (un : Int) (n : Nat) (u : Nat → Value) (listed : Array Bool) (a : Act) (W : World) : Prop :=
  ∃ L : Nat → Bool, (∀ k, listed.getD k false = L k) ∧ ∃ s : Nat → Value, a = frRV g q2 q3 n k u s ∧ listed.size = 8 ∧ RV w0 w g q2 q3 sA sB cs0 A k c l uo un L s W
section
variable {w w0 : World} {g : Nat} {s : RdS}
set_option maxRecDepth 100000 in
set_option maxHeartbeats 4000000 in
theorem thing_r (h : RdAt w0 w g s) (hb : okB s.b) (hl : s.b.length ≤ 100000) : Calls Tryz.prog 71 #[.pointer (some ⟨g, 0, none⟩)] w fun e w' => ∃ vF, e = .returned (.agg (aggT (thingR s).1 vF)) ∧ Own w' w.heap.size 38 vF (thingR s).1.F.length 2 (cF (thingR s).1.F) ∧ RdAt w0 w' g (thingR s).2 ∧ Keep (· = g) w w' := by
  have hgw : g < w.heap.size := by obtain ⟨v, b, _⟩ := h.ex; exact b.lt
  have hw0 : w0.heap.size ≤ w.heap.size := h.x.below.size
  have ET : Hid (thingR s = bodyR (numR s).1 (numR (numR s).2).1 (numR (kindR (numR s).2)).1 (numR (kindR (numR s).2)).2) := Lib.hid rfl
  have EK : Hid (kindR (numR s).2 = if fmtK (numR (numR s).2).1 < 1 ∨ 3 < fmtK (numR (numR s).2).1 then wrongR 4 (numR (numR s).2).2 else (numR (numR s).2).2) := Lib.hid rfl
  have hb1 := okB_num hb
  have hb2 := okB_num hb1
  have hb3 := okB_kind hb1
  have hb4 := okB_num hb3
  have hl4 : (numR (kindR (numR s).2)).2.b.length ≤ 100000 := by
    have a1 := num_short s
    have a2 := num_short (numR s).2
    have a3 := num_short (kindR (numR s).2)
    have a4 : (kindR (numR s).2).b.length ≤ (numR s).2.b.length := by unfold kindR; split; rw [wrong_b]; exact num_short _; exact num_short _
    omega
  obtain ⟨c0, c1⟩ := numR_in hb
  obtain ⟨k0, k1⟩ := numR_in hb1
  obtain ⟨h0, h1⟩ := numR_in hb3
  have CN1 := Lib.hid (fun W2 (z : Ext w W2) => rnumber_ (h.ext z) hb)
  have CN2 := Lib.hid (fun W2 (d : RdAt w0 W2 g (numR s).2) => rnumber_ d hb1)
  have CN3 := Lib.hid (fun W2 (d : RdAt w0 W2 g (kindR (numR s).2)) => rnumber_ d hb3)
  have CW := Lib.hid (fun W2 (d : RdAt w0 W2 g (numR (numR s).2).2) => wrong_ d 4)
  have HB4 := Lib.hid hb4
  clear h hb hb1 hb2 hb3 hb4
  generalize thingR s = tr at *
  generalize (numR (kindR (numR s).2)).2 = s4 at *
  generalize (numR (kindR (numR s).2)).1 = hh at *
  generalize kindR (numR s).2 = s3 at *
  generalize (numR (numR s).2).2 = s2 at *
  generalize (numR (numR s).2).1 = kd at *
  generalize (numR s).2 = s1 at *
  generalize (numR s).1 = cc at *
  obtain ⟨ft, hft⟩ : ∃ ft, fmtK kd = ft := ⟨_, rfl⟩
  obtain ⟨fi, hfi⟩ : ∃ fi, finK kd = fi := ⟨_, rfl⟩
  have hand : bits .andNot .u32 kd 4 = ft := by rw [bnand4 kd k0 k1, ← hft]; rfl
  obtain ⟨m4, hm4⟩ : ∃ m4, kd / 4 % 2 * 4 = m4 := ⟨_, rfl⟩
  have hand2 : bits .and .u32 kd 4 = m4 := by rw [band4 kd k0 k1, hm4]
  have hmf : (m4 != 0) = fi := by rw [← hm4, ← hfi]; rfl
  have f0 : 0 ≤ ft ∧ ft < 4294967296 := by rw [← hft]; unfold fmtK; omega
  obtain ⟨f0, f1⟩ := f0
  rw [hft] at EK
  have EF := Lib.hid (And.intro hft hfi)
  clear hft hfi hm4
  go_enter Tryz.func71, Tryz.ntmps71
  go_upto_region 1 with (fail)
  refine wp_name (fun w1 hw => ?_)
  have b2 : Blk w1 w.heap.size 49 zT6 := Blk.new' hw
  have X1 := Lib.hid ((Ext.refl w).alloc' hw)
  have B2 := Lib.hid b2
  clear hw b2
  go_upto_region 2 with (go_at_call 72; refine (CN1.out _ (X1.out.trans (is_ext _ _))).mono ?_; rintro e w2 ⟨rfl, hd, k2⟩; have D2 := Lib.hid hd; have K2 := Lib.hid (Keep.trans (Keep.of_ext (X1.out.trans (is_ext w1 _)) (· = g)) k2); have B22 := Lib.hid ((B2.out.ext (is_ext w1 _)).keep k2 (by omega)); clear hd k2)
  refine wp_name (fun w3 hw => ?_)
  have x3 : Ext w2 w3 := (Ext.refl w2).alloc' hw
  have T3 : Hid (TB w0 w g w.heap.size w2.heap.size s1 #[.int .i64 cc, .int .i64 0, .int .i64 0, .bool false, .slice none 0 0, .string ByteArray.empty] w3) := Lib.hid ⟨D2.out.ext x3, B22.out.ext x3, Blk.new' hw, K2.out.ext x3⟩
  have tq : TQ w0 w g w.heap.size w2.heap.size := ⟨Nat.le_refl _, K2.out.size, Nat.ne_of_lt B22.out.lt, hgw, hw0⟩
  have TQH := Lib.hid tq
  clear hw x3 tq D2 K2 B22 B2 X1 CN1
  generalize w2.heap.size = q3 at *
  generalize hq2 : w.heap.size = q2 at *
  have Q2 := Lib.hid hq2
  clear hq2
  obtain ⟨r1, r2, r3⟩ := T3.out.b3.rules
  go_upto_region 4 with (go_at_call 72; refine (CN2.out _ (T3.out.d.ext (is_ext _ _))).mono ?_; rintro e w4 ⟨rfl, hd, k4⟩; have T4 := Lib.hid ((T3.out.ext (is_ext w3 _)).call TQH.out hd k4); clear hd k4 r1 r2 r3; obtain ⟨r1, r2, r3⟩ := T4.out.b3.rules)
  refine wp_name (fun w5 hw => ?_)
  have T5 : Hid (TB w0 w g q2 q3 s2 #[.int .i64 cc, .int .i64 ft, .int .i64 0, .bool fi, .slice none 0 0, .string ByteArray.empty] w5) := Lib.hid (by
    rw [hw]
    have := (T4.out.set TQH.out 1 (.int .i64 ft)).set TQH.out 3 (.bool fi)
    simpa using this)
  clear hw T3 T4 r1 r2 r3 CN2 hand hand2 hmf
  obtain ⟨r1, r2, r3⟩ := T5.out.b3.rules
  obtain ⟨bad, hbad⟩ : ∃ b, (decide (ft < 1) || decide (3 < ft)) = b := ⟨_, rfl⟩
  have EB : Hid ((ft < 1 ∨ 3 < ft) ↔ bad = true) := Lib.hid (by rw [← hbad]; simp)
  go_cut [26] from 19 to 25 (fun v26 wx => v26 = .bool bad ∧ wx = w5)
  case first =>
    by_cases hlo : ft < 1
    · have e1 : bad = true := by rw [← hbad]; simp [hlo]
      subst e1
      clear hbad
      go_wp2_with fail
      go_meet
      exact ⟨rfl, rfl⟩
    · by_cases hhi : 3 < ft
      · have e1 : bad = true := by rw [← hbad]; simp [hhi]
        subst e1
        clear hbad
        go_wp2_with fail
        go_meet
        exact ⟨rfl, rfl⟩
      · have e1 : bad = false := by rw [← hbad]; simp [hlo, hhi]
        subst e1
        clear hbad
        go_wp2_with fail
        go_meet
        exact ⟨rfl, rfl⟩
  case rest =>
  obtain ⟨rfl, hwc⟩ := hcut
  subst hwc
  clear hbad r1 r2 r3
  go_upto_if 26 with (fail)
  go_cut [27] from 28 to 28 (fun v27 wx => TB w0 w g q2 q3 s3 #[.int .i64 cc, .int .i64 ft, .int .i64 0, .bool fi, .slice none 0 0, .string ByteArray.empty] wx)
  case first =>
    cases bad with
    | true =>
      have ES : Hid (s3 = wrongR 4 s2) := Lib.hid (by rw [EK.out, if_pos (EB.out.2 rfl)])
      go_wp2_with (go_at_call 68; refine (CW.out _ (T5.out.d.ext (is_ext _ _))).mono ?_; rintro e w6 ⟨rfl, hd, k6⟩; have T6 := Lib.hid ((T5.out.ext (is_ext _ _)).call TQH.out hd k6); clear hd k6)
      go_meet
      rw [ES.out]; exact T6.out
    | false =>
      have ES : Hid (s3 = s2) := Lib.hid (by rw [EK.out, if_neg (fun h => absurd (EB.out.1 h) (by decide))])
      go_wp2_with fail
      go_meet
      rw [ES.out]; exact T5.out
  case rest =>
    have T6 := Lib.hid hcut
    clear hcut T5 EK CW EB
    obtain ⟨r1, r2, r3⟩ := T6.out.b3.rules
    go_upto_region 7 with (go_at_call 72; refine (CN3.out _ (T6.out.d.ext (is_ext _ _))).mono ?_; rintro e w7 ⟨rfl, hd, k7⟩; have T7 := Lib.hid ((T6.out.ext (is_ext _ _)).call TQH.out hd k7); clear hd k7 r1 r2 r3; obtain ⟨r1, r2, r3⟩ := T7.out.b3.rules)
    refine wp_name (fun w8 hw => ?_)
    have T8 : Hid (TB w0 w g q2 q3 s4 #[.int .i64 cc, .int .i64 ft, .int .i64 hh, .bool fi, .slice none 0 0, .string ByteArray.empty] w8) := Lib.hid (by
      rw [hw]
      have := T7.out.set TQH.out 2 (.int .i64 hh)
      simpa using this)
    clear hw T6 T7 r1 r2 r3 CN3
    obtain ⟨r1, r2, r3⟩ := T8.out.b3.rules
    by_cases h3 : ft = 3
    · have h3b : (ft == 3) = true := by simp [h3]
      have ER : Hid (tr = (⟨cc, 3, hh, fi, [], strI (takeR (countR 1 s4).1.toNat (countR 1 s4).2).1⟩, (takeR (countR 1 s4).1.toNat (countR 1 s4).2).2)) := Lib.hid (by
        obtain ⟨e1, e2⟩ := EF.out
        rw [ET.out]; unfold bodyR; rw [e1, e2, if_pos h3, h3])
      have CC := Lib.hid (fun W2 (d : RdAt w0 W2 g s4) => rcount_ d HB4.out 1 (by omega) (by omega))
      obtain ⟨n0, n1⟩ := countR_in (each := 1) HB4.out
      obtain ⟨n, hn⟩ := Int.eq_ofNat_of_zero_le n0
      rw [hn] at CC ER
      rw [Int.toNat_natCast] at ER
      have CT := Lib.hid (fun W2 (d : RdAt w0 W2 g (countR 1 s4).2) => take_ d n (by omega))
      have H3 := Lib.hid h3
      have n23 : q2 ≠ q3 := TQH.out.n23
      have n32 : q3 ≠ q2 := fun e => n23 e.symm
      clear hn n0 n1 ET EF h3
      generalize (countR 1 s4).2 = s5 at *
      generalize (takeR n s5).2 = s6 at *
      generalize (takeR n s5).1 = bs at *
      go_wp2_with ((first | (go_at_call 70; refine (CC.out _ (T8.out.d.ext (is_ext _ _))).mono ?_; rintro e w9 ⟨rfl, hd, k9⟩; have T9 := Lib.hid ((T8.out.ext (is_ext _ _)).call TQH.out hd k9); clear hd k9 r1 r2 r3; obtain ⟨r1, r2, r3⟩ := T9.out.b3.rules) | (go_at_call 69; refine (CT.out _ (T9.out.d.ext (is_ext _ _))).mono ?_; rintro e w10 ⟨v, rfl, hr, hd, k10⟩; have T10 := Lib.hid ((T9.out.ext (is_ext _ _)).call TQH.out hd k10); obtain ⟨Ab, cb, ev, _⟩ := Row.form hr; subst ev; have hcv := conv_str hr; clear hd k10 hr r1 r2 r3; obtain ⟨r1, r2, r3⟩ := T10.out.b3.rules; obtain ⟨u1, u2, u3⟩ := T10.out.b2.rules; unfold zT6 at u1)))
      have T11 : Hid (TB w0 w g q2 q3 s6 #[.int .i64 cc, .int .i64 ft, .int .i64 hh, .bool fi, .slice none 0 0, .string (strI bs)] (w10.setCell ⟨q3, 5, none⟩ (.string (strI bs)))) := Lib.hid (by
        have := T10.out.set TQH.out 5 (.string (strI bs))
        simpa using this)
      have hn2 : q2 ≠ g := by have := TQH.out.h2; have := TQH.out.hg; omega
      have hq2 : w0.heap.size ≤ q2 := Nat.le_trans TQH.out.h0 TQH.out.h2
      refine bodyPost_ret (v := .agg #[.int .i64 cc, .int .i64 ft, .int .i64 hh, .bool fi, .slice none 0 0, .string (strI bs)]) (by simp [results, Tryz.results71, go_sem, u1] <;> rfl) rfl ?_
      refine ⟨.slice none 0 0, by rw [ER.out, H3.out]; rfl, by rw [ER.out]; exact World.ownsRow_nil _ _ _ _, by rw [ER.out]; exact ((((((T11.out.d.far hn2 hq2 0 (.int .i64 cc)).far hn2 hq2 1 (.int .i64 ft)).far hn2 hq2 2 (.int .i64 hh)).far hn2 hq2 3 (.bool fi)).far hn2 hq2 4 (.slice none 0 0)).far hn2 hq2 5 (.string (strI bs))), ((((((T11.out.k.setNew (p := ⟨q2, 0, none⟩) TQH.out.h2 (.int .i64 cc)).setNew (p := ⟨q2, 1, none⟩) TQH.out.h2 (.int .i64 ft)).setNew (p := ⟨q2, 2, none⟩) TQH.out.h2 (.int .i64 hh)).setNew (p := ⟨q2, 3, none⟩) TQH.out.h2 (.bool fi)).setNew (p := ⟨q2, 4, none⟩) TQH.out.h2 (.slice none 0 0)).setNew (p := ⟨q2, 5, none⟩) TQH.out.h2 (.string (strI bs)))⟩
    · have h3b : (ft == 3) = false := beq_eq_false_iff_ne.2 h3
      have ER : Hid (tr = (⟨cc, ft, hh, fi, (valsR (countR 4 s4).1.toNat (countR 4 s4).2).1, ByteArray.empty⟩, (valsR (countR 4 s4).1.toNat (countR 4 s4).2).2)) := Lib.hid (by
        obtain ⟨e1, e2⟩ := EF.out
        rw [ET.out]; unfold bodyR; rw [e1, e2, if_neg h3])
      have CC := Lib.hid (fun W2 (d : RdAt w0 W2 g s4) => rcount_ d HB4.out 4 (by omega) (by omega))
      obtain ⟨n0, n1⟩ := countR_in (each := 4) HB4.out
      have hle := count_le (each := 4) (by omega) s4
      have hsh := count_short 4 s4
      have OKc := Lib.hid (okB_count (each := 4) HB4.out)
      obtain ⟨n, hn⟩ := Int.eq_ofNat_of_zero_le n0
      rw [hn] at CC ER hle
      rw [Int.toNat_natCast] at ER
      have hn1 : n ≤ 100000 := by omega
      have n23 : q2 ≠ q3 := TQH.out.n23
      have n32 : q3 ≠ q2 := fun e => n23 e.symm
      have hw3 := TQH.out.h3
      obtain ⟨iV, hV, hV0, hV1, hV2⟩ := info_parts infoV7
      clear hn n0 n1 hle hsh ET EF h3
      generalize (countR 4 s4).2 = s5 at *
      go_upto_region 11 with (go_at_call 70; refine (CC.out _ (T8.out.d.ext (is_ext _ _))).mono ?_; rintro e w9 ⟨rfl, hd, k9⟩; have T9 := Lib.hid ((T8.out.ext (is_ext _ _)).call TQH.out hd k9); clear hd k9 r1 r2 r3)
      go_loopw [45] (fun iv wr => ∃ k : Nat, k ≤ n ∧ iv = .int .i64 k ∧ ∃ A c, TB w0 w g q2 q3 (valsR k s5).2 #[.int .i64 cc, .int .i64 ft, .int .i64 hh, .bool fi, .slice A k c, .string ByteArray.empty] wr ∧ Own wr w.heap.size 38 (.slice A k c) k 2 (cF (valsR k s5).1)) (fun iv _ => n - (intOf iv).toNat)
      case atStart => exact ⟨0, Nat.zero_le _, rfl, none, 0, T9.out, World.ownsRow_nil _ _ _ _⟩
      case round =>
        clear T8 T9
        obtain ⟨k, hk, rfl, A, c, C, O⟩ := hrel
        have CH := Lib.hid C
        have OH := Lib.hid O
        by_cases hlt : k < n
        · have kI : (k : Int) < (n : Int) := by omega
          obtain ⟨r1, r2, r3⟩ := C.b3.rules
          have hs7 : okB (valsR k s5).2.b := okB_vals k OKc.out
          have CV := Lib.hid (fun W2 (d : RdAt w0 W2 g (valsR k s5).2) => rvalue_ d hs7)
          have LK := Lib.hid (vals_len k s5)
          have EN : Hid (valsR (k + 1) s5 = ((valsR k s5).1 ++ [(valR (valsR k s5).2).1], (valR (valsR k s5).2).2)) := Lib.hid rfl
          obtain ⟨vb, bb, _⟩ := C.d.ex
          have BB := Lib.hid bb
          have hwr := Lib.hid C.k.size
          clear C O bb hs7
          generalize (valR (valsR k s5).2).2 = s7 at *
          generalize (valR (valsR k s5).2).1 = u at *
          generalize (valsR k s5).1 = l at *
          obtain ⟨uo, un⟩ := u
          go_upto_region 12 with (fail)
          refine wp_any_act (fun A' hA => ?_)
          have eA : A' = frRV g q2 q3 n k (fun q => A'.tmps.getD q undef) (fun q => A'.tmps.getD q undef) := by rw [hA]; rfl
          obtain ⟨uu, huu⟩ : ∃ uu, (fun q => A'.tmps.getD q undef) = uu := ⟨_, rfl⟩
          rw [huu] at eA
          rw [hA] at huu
          have HU := Lib.hid huu
          clear hA huu
          subst eA
          refine wp_region_inv (Inv := RVInv w0 w g q2 q3 (valsR k s5).2 s7 #[.int .i64 cc, .int .i64 ft, .int .i64 hh, .bool fi, .slice A k c, .string ByteArray.empty] A k c l uo un n uu) (by kernel_rfl) ?_ ?_ ?_
          · refine ⟨fun _ => false, fun k => ?_, uu, rfl, by simp, ⟨fun _ => CH.out.d.ext ((Ext.refl _).drew), ?_, CH.out.b2.drew, CH.out.k.drew, fun _ => CH.out.b3.drew, fun _ => OH.out.ext ((Ext.refl _).drew), ?_, ?_, ?_, ?_, ?_, ?_, ?_, ?_, ?_, ?_, ?_, ?_⟩⟩
            · rw [Array.getD_eq_getD_getElem?, Array.getElem?_replicate]; split <;> rfl
            all_goals (intro h; cases h)
          · rintro listed act W ii ⟨L, hL, s, rfl, hsz, I⟩ hi
            obtain ⟨hlt', hnot, hdep⟩ := (ready_iff _ _).1 hi
            have hi8 : ii < 8 := hlt'
            have cases8 : ii = 0 ∨ ii = 1 ∨ ii = 2 ∨ ii = 3 ∨ ii = 4 ∨ ii = 5 ∨ ii = 6 ∨ ii = 7 := by omega
            have hn0 : L ii = false := by rw [← hL ii]; exact not_bit hnot
            clear hi hlt' hi8 hnot
            unfold frRV
            rcases cases8 with rfl | rfl | rfl | rfl | rfl | rfl | rfl | rfl
            · -- operation 0
              refine wpOp_step rfl (fun K' hK => ?_)
              go_simp
              exact hK _ _ ⟨_, bit_set hL hsz 0 (by omega), fun jx => if jx = 47 then .pointer (some ⟨q3, 4, none⟩) else s jx, by first | (simp [frRV]; done) | (simp [frRV]; rfl), by simpa using hsz, ⟨I.dA, I.dB, I.b2, I.kp, I.b3, I.o, I.k4, I.k5, I.k51, I.k7, fun _ => rfl, I.l1, I.m2, I.v3, I.b4, I.a5, I.p6, I.e7⟩⟩
            · -- operation 1
              simp [hL, Region.binds] at hdep
              have d0 : L 0 = true := by simp [hdep]
              have es := I.p0 d0
              have n5 : L 5 = false := by cases hh5 : L 5 with | false => rfl | true => exact (by rw [I.k51 hh5] at hn0; cases hn0)
              have n7 : L 7 = false := by cases hh7 : L 7 with | false => rfl | true => exact (by rw [I.k7 hh7] at n5; cases n5)
              have hc : W.cell? ⟨q3, 4, none⟩ = some (.slice A k c) := (I.b3 n7).cell 4
              have hlc := (I.b3 n7).lt
              refine wpOp_step rfl (fun K' hK => ?_)
              rw [es]
              go_simp
              exact hK _ _ ⟨_, bit_set hL hsz 1 (by omega), fun jx => if jx = 48 then .slice A k c else s jx, by first | (simp [frRV, es]; done) | (simp [frRV, es]; rfl), by simpa using hsz, ⟨I.dA, I.dB, I.b2, I.kp, I.b3, I.o, I.k4, I.k5, fun _ => rfl, I.k7, I.p0, fun _ => rfl, I.m2, I.v3, I.b4, I.a5, I.p6, I.e7⟩⟩
            · -- operation 2
              refine wpOp_step rfl (fun K' hK => ?_)
              go_simp
              exact hK _ _ ⟨_, bit_set hL hsz 2 (by omega), fun jx => if jx = 49 then .pointer (some ⟨g, 0, none⟩) else s jx, by first | (simp [frRV]; done) | (simp [frRV]; rfl), by simpa using hsz, ⟨I.dA, I.dB, I.b2, I.kp, I.b3, I.o, I.k4, I.k5, I.k51, I.k7, I.p0, I.l1, fun _ => rfl, I.v3, I.b4, I.a5, I.p6, I.e7⟩⟩
            · -- operation 3
              simp [hL, Region.binds] at hdep
              have d2 : L 2 = true := by simp [hdep]
              have es := I.m2 d2
              have n4 : L 4 = false := by cases hh4 : L 4 with | false => rfl | true => exact (by rw [I.k4 hh4] at hn0; cases hn0)
              have n5 : L 5 = false := by cases hh5 : L 5 with | false => rfl | true => exact (by rw [I.k5 hh5] at n4; cases n4)
              have n7 : L 7 = false := by cases hh7 : L 7 with | false => rfl | true => exact (by rw [I.k7 hh7] at n5; cases n5)
              refine wpOp_step rfl (fun K' hK => ?_)
              rw [es]
              go_simp
              refine (CV.out _ (I.dA hn0)).mono ?_
              rintro e w9 ⟨rfl, hd, k9⟩
              obtain ⟨vb, bb, _⟩ := (I.dA hn0).ex
              exact hK _ _ ⟨_, bit_set hL hsz 3 (by omega), fun jx => if jx = 50 then .agg #[.bool uo, .int .i64 un] else s jx, by first | (simp [frRV, es]; done) | (simp [frRV, es]; rfl), by simpa using hsz, ⟨(fun h => absurd h (by simp)), (fun _ => hd), I.b2.keep k9 (by have := TQH.out.h2; have := TQH.out.hg; omega), I.kp.trans k9, (fun h => (I.b3 h).keep k9 (by have := TQH.out.h3; have := TQH.out.hg; omega)), (fun h => Own.keep (I.o h) k9 bb (by decide)), fun _ => rfl, I.k5, I.k51, I.k7, I.p0, I.l1, I.m2, fun _ => rfl, (fun h => absurd (show L 4 = true from h) (by rw [n4]; decide)), (fun h => absurd (show L 5 = true from h) (by rw [n5]; decide)), I.p6, (fun h => absurd (show L 7 = true from h) (by rw [n7]; decide))⟩⟩
            · -- operation 4
              simp [hL, Region.binds] at hdep
              have d3 : L 3 = true := by simp [hdep]
              have es := I.v3 d3
              have n5 : L 5 = false := by cases hh5 : L 5 with | false => rfl | true => exact (by rw [I.k5 hh5] at hn0; cases hn0)
              have n7 : L 7 = false := by cases hh7 : L 7 with | false => rfl | true => exact (by rw [I.k7 hh7] at n5; cases n5)
              have xA := (Ext.refl W).alloc (.cells #[.bool uo, .int .i64 un] 38)
              refine wpOp_step rfl (fun K' hK => ?_)
              rw [es]
              go_simp
              exact hK _ _ ⟨_, bit_set hL hsz 4 (by omega), fun jx => if jx = 51 then .slice (some ⟨W.heap.size, 0, none⟩) 1 1 else s jx, by first | (simp [frRV, es]; done) | (simp [frRV, es]; rfl), by simpa using hsz, ⟨(fun h => (I.dA h).ext xA), (fun h => (I.dB h).ext xA), I.b2.ext xA, Keep.ext I.kp xA, (fun h => (I.b3 h).ext xA), (fun h => (I.o h).ext xA), fun _ => d3, fun _ => rfl, I.k51, I.k7, I.p0, I.l1, I.m2, I.v3, (fun _ _ => ⟨_, rfl, Blk.new _ _ _⟩), (fun h => absurd (show L 5 = true from h) (by rw [n5]; decide)), I.p6, (fun h => absurd (show L 7 = true from h) (by rw [n7]; decide))⟩⟩
            · -- operation 5
              simp [hL, Region.binds] at hdep
              have d1 : L 1 = true := by simp [hdep]
              have d4 : L 4 = true := by simp [hdep]
              have e1 := I.l1 d1
              obtain ⟨bb, e4, hbb⟩ := I.b4 d4 hn0
              have OO := I.o hn0
              have n7 : L 7 = false := by cases hh7 : L 7 with | false => rfl | true => exact (by rw [I.k7 hh7] at hn0; cases hn0)
              have sW := I.kp.size
              refine wpOp_step rfl (fun K' hK => ?_)
              rw [e1, e4]
              refine step_append_lies _ (by rfl) (.tmp 48) (.tmp 51) 40 (by rfl) w.heap.size 38 iV (.agg #[.bool false, .int .i64 0]) 2 16 Tryz.underlying40 hV hV0 hV1 hV2 rfl (by decide) (.slice A k c) k (flat k 2 (cF l)) (by rfl) OO ⟨bb, 0, none⟩ 1 1 [.bool uo, .int .i64 un] (by rfl) (by rfl) (World.news_of_block hbb) (by simp [Value.oneCell']) (by omega) (by unfold maxLen; omega) (by omega) sW W.heap.size rfl ?_
              intro gd cd w10 o10 g10 hat hlt10
              have KG : Keep (fun j => Value.ownBlock (.slice A k c) = some j) W w10 := ⟨g10.os, g10.tape, g10.output, g10.size, fun k hk hn => g10.block k hk (fun e => hn e.symm)⟩
              have nT : ∀ {b : Nat} {cs : Array Value}, Blk W b 49 cs → ¬ Value.ownBlock (.slice A k c) = some b := fun hb e => by obtain ⟨_, c, h'⟩ := OO.block e; exact (hb.ne h' (by decide)) rfl
              have nR : ∀ {s : RdS}, RdAt w0 W g s → RdAt w0 w10 g s := fun d => d.grow KG (fun e => by obtain ⟨_, c, h'⟩ := OO.block e; obtain ⟨_, b, _⟩ := d.ex; exact (b.ne h' (by decide)) rfl) (fun j e => Nat.le_trans TQH.out.h0 (OO.block e).1)
              refine hK _ _ ⟨_, bit_set hL hsz 5 (by omega), fun jx => if jx = 52 then .slice (some ⟨gd, 0, none⟩) (k + 1) cd else s jx, by first | (simp [frRV, e1, e4, Act.put]; done) | (simp [frRV, e1, e4, Act.put]; rfl), by simpa using hsz, ⟨(fun h => nR (I.dA h)), (fun h => nR (I.dB h)), I.b2.keep KG (nT I.b2), Keep.toBase KG I.kp (fun j e => (OO.block e).1), (fun h => (I.b3 h).keep KG (nT (I.b3 h))), (fun h => absurd h (by simp)), I.k4, fun _ => d4, fun _ => d1, fun _ => rfl, I.p0, I.l1, I.m2, I.v3, (fun _ h => absurd h (by simp)), (fun _ => ⟨gd, cd, rfl, own_vpush6 (u := ⟨uo, un⟩) LK.out o10⟩), I.p6, (fun h => absurd (show L 7 = true from h) (by rw [n7]; decide))⟩⟩
            · -- operation 6
              refine wpOp_step rfl (fun K' hK => ?_)
              go_simp
              exact hK _ _ ⟨_, bit_set hL hsz 6 (by omega), fun jx => if jx = 53 then .pointer (some ⟨q3, 4, none⟩) else s jx, by first | (simp [frRV]; done) | (simp [frRV]; rfl), by simpa using hsz, ⟨I.dA, I.dB, I.b2, I.kp, I.b3, I.o, I.k4, I.k5, I.k51, I.k7, I.p0, I.l1, I.m2, I.v3, I.b4, I.a5, fun _ => rfl, I.e7⟩⟩
            · -- operation 7
              simp [hL, Region.binds] at hdep
              have d5 : L 5 = true := by simp [hdep]
              have d6 : L 6 = true := by simp [hdep]
              have e6 := I.p6 d6
              obtain ⟨gd, cd, e5, o5⟩ := I.a5 d5
              have B3 := I.b3 hn0
              have hc : W.cell? ⟨q3, 4, none⟩ = some (.slice A k c) := B3.cell 4
              have hlc := B3.lt
              have hfc := B3.frozen
              refine wpOp_step rfl (fun K' hK => ?_)
              rw [e5, e6]
              go_simp
              have KTs := kt_set B3 4 (.slice (some ⟨gd, 0, none⟩) (k + 1) cd)
              have ng3 : q3 ≠ g := by have := TQH.out.h3; have := TQH.out.hg; omega
              have h03 : w0.heap.size ≤ q3 := Nat.le_trans TQH.out.h0 TQH.out.h3
              exact hK _ _ ⟨_, bit_set hL hsz 7 (by omega), s, by first | (simp [frRV, e5, e6]; done) | (simp [frRV, e5, e6]; rfl), by simpa using hsz, ⟨(fun h => (I.dA h).far ng3 h03 4 _), (fun h => (I.dB h).far ng3 h03 4 _), I.b2.far (p := ⟨q3, 4, none⟩) n23 _, I.kp.setNew (p := ⟨q3, 4, none⟩) TQH.out.h3 _, (fun h => absurd h (by simp)), (fun h => (I.o h).kt KTs (by decide)), I.k4, I.k5, I.k51, fun _ => d5, I.p0, I.l1, I.m2, I.v3, (fun _ h => absurd (show L 5 = false from h) (by rw [d5]; decide)), (fun _ => ⟨gd, cd, e5, o5.kt KTs (by decide)⟩), I.p6, (fun _ => by rw [e5]; exact B3.set 4 _)⟩⟩
          · rintro listed act W ⟨L, hL, s, rfl, hsz, I⟩ hr
            have ALL : ∀ i, i < 8 → L i = true := fun i hi => by rw [← hL i]; exact all_listed (by kernel_rfl) hsz hr i hi
            obtain ⟨gd, cd, e5, o5⟩ := I.a5 (ALL 5 (by omega))
            have B3 := I.e7 (ALL 7 (by omega))
            rw [e5] at B3
            have T11 : Hid (TB w0 w g q2 q3 s7 #[.int .i64 cc, .int .i64 ft, .int .i64 hh, .bool fi, .slice (some ⟨gd, 0, none⟩) (k + 1) cd, .string ByteArray.empty] W) := Lib.hid ⟨I.dB (ALL 3 (by omega)), I.b2, by simpa using B3, I.kp⟩
            have O11 := Lib.hid o5
            unfold frRV
            dsimp only
            rw [← HU.out]
            simp only [Array.getD_eq_getD_getElem?, List.getElem?_toArray, List.getElem?_cons_zero, List.getElem?_cons_succ, Option.getD_some]
            clear hL ALL HU hr hsz I e5 o5 B3
            go_wp2_with fail
            go_roundw
            case rel => exact ⟨k + 1, by omega, by go_num, _, _, by rw [EN.out]; exact T11.out, by rw [EN.out]; exact O11.out⟩
            case measure => simp [intOf] <;> omega
        · obtain rfl : k = n := by omega
          obtain ⟨r1, r2, r3⟩ := C.b3.rules
          obtain ⟨u1, u2, u3⟩ := C.b2.rules
          unfold zT6 at u1
          have hn2 : q2 ≠ g := by have := TQH.out.h2; have := TQH.out.hg; omega
          have hq2 : w0.heap.size ≤ q2 := Nat.le_trans TQH.out.h0 TQH.out.h2
          clear C O
          go_wp2_with fail
          have KP := (((((((Keep.refl (· = q2) wr).setCell (p := ⟨q2, 0, none⟩) rfl (.int .i64 cc)).setCell (p := ⟨q2, 1, none⟩) rfl (.int .i64 ft)).setCell (p := ⟨q2, 2, none⟩) rfl (.int .i64 hh)).setCell (p := ⟨q2, 3, none⟩) rfl (.bool fi)).setCell (p := ⟨q2, 4, none⟩) rfl (.slice A k c)).setCell (p := ⟨q2, 5, none⟩) rfl (.string ByteArray.empty))
          have KPT : KT [49] wr _ := Keep.mono KP (fun j e => by subst e; exact ⟨_, _, by simp, CH.out.b2⟩)
          have LK := vals_len k s5
          have OF := OH.out.kt KPT (by decide)
          refine bodyPost_ret (v := .agg #[.int .i64 cc, .int .i64 ft, .int .i64 hh, .bool fi, .slice A k c, .string ByteArray.empty]) (by simp [results, Tryz.results71, go_sem, u1] <;> rfl) rfl ?_
          refine ⟨.slice A k c, by rw [ER.out]; rfl, by rw [ER.out]; show Own _ _ _ _ (valsR k s5).1.length 2 _; rw [LK]; exact OF, by rw [ER.out]; exact ((((((CH.out.d.far hn2 hq2 0 (.int .i64 cc)).far hn2 hq2 1 (.int .i64 ft)).far hn2 hq2 2 (.int .i64 hh)).far hn2 hq2 3 (.bool fi)).far hn2 hq2 4 (.slice A k c)).far hn2 hq2 5 (.string ByteArray.empty)), ((((((CH.out.k.setNew (p := ⟨q2, 0, none⟩) TQH.out.h2 (.int .i64 cc)).setNew (p := ⟨q2, 1, none⟩) TQH.out.h2 (.int .i64 ft)).setNew (p := ⟨q2, 2, none⟩) TQH.out.h2 (.int .i64 hh)).setNew (p := ⟨q2, 3, none⟩) TQH.out.h2 (.bool fi)).setNew (p := ⟨q2, 4, none⟩) TQH.out.h2 (.slice A k c)).setNew (p := ⟨q2, 5, none⟩) TQH.out.h2 (.string ByteArray.empty))⟩
end
end Go.Proofs.YtjpalcejmloocaaGreat.World
