/-
  The walk of the law ThingPoints.
-/
import Derived.Test.YtnhijjcplnomgaaGreatPoints
import Derived.OpenShut
namespace Go.Proofs.YtnhijjcplnomgaaGreat.World
open Go.RowKit Go.Proofs.YtnhijjcplnomgaaGreat.Plain
set_option linter.unusedVariables false
attribute [local go_sem ↓] Go.wp_at_zero Go.wp_at_succ
/-! ### the numbers -/
theorem mul_bd {a b : Int} {A B : Nat} (ha : a.natAbs ≤ A) (hb : b.natAbs ≤ B) : (a * b).natAbs ≤ A * B := by
  rw [Int.natAbs_mul]; exact Nat.mul_le_mul ha hb
theorem squares2 (a b c d : Int) : (a * c - b * d) * (a * c - b * d) + (a * d + b * c) * (a * d + b * c) = (a * a + b * b) * (c * c + d * d) := by grind
structure PNums (p0 p1 p2 p3 sx sy q02 q13 q03 q12 tx ty s00 s11 kk jj z : Int) : Prop where
  e1 : p0 + p2 = sx
  e2 : p1 + p3 = sy
  e3 : p0 * p2 = q02
  e4 : p1 * p3 = q13
  e5 : p0 * p3 = q03
  e6 : p1 * p2 = q12
  e7 : q02 - q13 = tx
  e8 : q03 + q12 = ty
  e9 : p0 * p0 = s00
  e10 : p1 * p1 = s11
  e11 : s00 + s11 = kk
  e12 : kk * jj = z
  e13 : p2 * p2 + p3 * p3 = jj
  e14 : tx * tx + ty * ty = z
  b1 : -10000 ≤ q02 ∧ q02 ≤ 10000
  b2 : -10000 ≤ q13 ∧ q13 ≤ 10000
  b3 : -10000 ≤ q03 ∧ q03 ≤ 10000
  b4 : -10000 ≤ q12 ∧ q12 ≤ 10000
  b5 : -10000 ≤ s00 ∧ s00 ≤ 10000
  b6 : -10000 ≤ s11 ∧ s11 ≤ 10000
  b7 : -20000 ≤ jj ∧ jj ≤ 20000
  b8 : -400000000 ≤ z ∧ z ≤ 400000000
theorem pnums_ (p0 p1 p2 p3 : Int) (h0 : -100 ≤ p0 ∧ p0 ≤ 99) (h1 : -100 ≤ p1 ∧ p1 ≤ 99) (h2 : -100 ≤ p2 ∧ p2 ≤ 99) (h3 : -100 ≤ p3 ∧ p3 ≤ 99) : ∃ sx sy q02 q13 q03 q12 tx ty s00 s11 kk jj z, PNums p0 p1 p2 p3 sx sy q02 q13 q03 q12 tx ty s00 s11 kk jj z := by
  have k : ∀ a b : Int, (-100 ≤ a ∧ a ≤ 99) → (-100 ≤ b ∧ b ≤ 99) → -10000 ≤ a * b ∧ a * b ≤ 10000 := fun a b ha hb => by
    have := mul_bd (a := a) (b := b) (A := 100) (B := 100) (by omega) (by omega)
    omega
  have a1 := k p0 p2 h0 h2
  have a2 := k p1 p3 h1 h3
  have a3 := k p0 p3 h0 h3
  have a4 := k p1 p2 h1 h2
  have a5 := k p0 p0 h0 h0
  have a6 := k p1 p1 h1 h1
  have a7 := k p2 p2 h2 h2
  have a8 := k p3 p3 h3 h3
  refine ⟨p0 + p2, p1 + p3, p0 * p2, p1 * p3, p0 * p3, p1 * p2, p0 * p2 - p1 * p3, p0 * p3 + p1 * p2, p0 * p0, p1 * p1, p0 * p0 + p1 * p1, p2 * p2 + p3 * p3, (p0 * p0 + p1 * p1) * (p2 * p2 + p3 * p3), rfl, rfl, rfl, rfl, rfl, rfl, rfl, rfl, rfl, rfl, rfl, rfl, rfl, squares2 _ _ _ _, a1, a2, a3, a4, a5, a6, by omega, ?_⟩
  have := mul_bd (a := p0 * p0 + p1 * p1) (b := p2 * p2 + p3 * p3) (A := 20000) (B := 20000) (by omega) (by omega)
  omega
theorem Ext.keeps {w a b : World} {F : Nat → Prop} (x : Ext w a) (k : Keep F a b) (h : ∀ k, F k → w.heap.size ≤ k) : Ext w b :=
  Ext.of_below (Keep.below x.below k x.below.size (fun i hi hf => by have := h i hf; omega))
def ptsF (p0 p1 p2 p3 : Int) : Nat → Int × Int := fun q => if q = 1 then (p2, p3) else (p0, p1)
def cell2 (j : Nat) : Array Value := if j = 0 then #[.bool false, .int .i64 0, .bool false, .int .i64 0] else if j = 1 then #[.bool true, .int .i64 23, .bool false, .int .i64 0] else #[.bool true, .int .i64 23, .bool true, .int .i64 24]
/-- behind so many rounds -/
structure StP (w : World) (m g11 g12 : Nat) (p0 p1 p2 p3 : Int) (j : Nat) (S : MS) (F : Nat → Prop) (W : World) : Prop where
  pts : ∃ f, MS.Pts S j f ∧ ∀ q, q < j → f q = if q = 0 then (p0, p1) else (p2, p3)
  mm : M W F m S
  x : Ext w W
  fl : ∀ k, F k → w.heap.size ≤ k
  b11 : Blk W g11 68 #[.int .i64 p0, .int .i64 p1, .int .i64 p2, .int .i64 p3]
  b12 : Blk W g12 69 (cell2 j)
  n11 : ¬ F g11
  n12 : ¬ F g12
  l11 : w.heap.size ≤ g11
  l12 : w.heap.size ≤ g12
set_option maxRecDepth 100000 in
set_option maxHeartbeats 4000000 in
theorem thingPoints (a0 a1 a2 a3 : Int) (w0 : (Lit.int .i64 a0).wf = true) (w1 : (Lit.int .i64 a1).wf = true) (w2 : (Lit.int .i64 a2).wf = true) (w3 : (Lit.int .i64 a3).wf = true) (w : World) :
    Calls Tryz.prog 8 #[.int .i64 a0, .int .i64 a1, .int .i64 a2, .int .i64 a3] w fun e w' => e = .returned (.bool true) ∧ Below w.heap.size w w' := by
  obtain ⟨x1, x2⟩ := bounds_i64 w0
  obtain ⟨x3, x4⟩ := bounds_i64 w1
  obtain ⟨x5, x6⟩ := bounds_i64 w2
  obtain ⟨x7, x8⟩ := bounds_i64 w3
  clear w0 w1 w2 w3
  obtain ⟨p0, hp0⟩ : ∃ p, a0 % 200 - 100 = p := ⟨_, rfl⟩
  obtain ⟨p1, hp1⟩ : ∃ p, a1 % 200 - 100 = p := ⟨_, rfl⟩
  obtain ⟨p2, hp2⟩ : ∃ p, a2 % 200 - 100 = p := ⟨_, rfl⟩
  obtain ⟨p3, hp3⟩ : ∃ p, a3 % 200 - 100 = p := ⟨_, rfl⟩
  have h0 : -100 ≤ p0 ∧ p0 ≤ 99 := by omega
  have h1 : -100 ≤ p1 ∧ p1 ≤ 99 := by omega
  have h2 : -100 ≤ p2 ∧ p2 ≤ 99 := by omega
  have h3 : -100 ≤ p3 ∧ p3 ≤ 99 := by omega
  have HP := Lib.hid (And.intro hp0 (And.intro hp1 (And.intro hp2 hp3)))
  have HF := Lib.hid (@first_ w)
  have HO := Lib.hid lobj
  unfold val objV at HO
  have AW := Lib.hid awake18
  clear hp0 hp1 hp2 hp3
  go_enter Tryz.func8, Tryz.ntmps8
  go_wp2_with fail
  refine HF.out.mono ?_
  clear HF
  rintro e wa ⟨x, rfl, b1, xa⟩
  have CN := Lib.hid (objnew (W := firstW) (b1.at_ (nums_of_check first_check)) first_check rfl 5)
  have XA := Lib.hid xa
  clear b1 xa
  generalize cellsW firstW x = cs at *
  go_wp2_with fail
  refine CN.out.mono ?_
  rintro e wb ⟨m, F, rfl, mb, hF, xb⟩
  have XB := Lib.hid (XA.out.trans xb)
  have FL : Hid (∀ k, F k → w.heap.size ≤ k) := Lib.hid (fun k hk => by have := hF k hk; have := XA.out.below.size; omega)
  have MB : Hid (M wb F m T0) := Lib.hid mb
  clear mb hF xb CN XA
  go_upto_region 4 with (fail)
  go_wp2_with (go_at_call 13; refine (Word.place _ _ _ (by omega) (by omega) (by omega) (by omega)).mono ?_; rintro e w' ⟨rfl, rfl⟩)
  refine wp_name (fun wz hW => ?_)
  obtain ⟨hp0, hp1, hp2, hp3⟩ := HP.out
  rw [hp0, hp1, hp2, hp3] at hW
  have xz : Ext wb wz := by rw [hW]; exact is_ext _ _
  have I0 : Hid (StP w m wb.heap.size (wb.heap.size + 1) p0 p1 p2 p3 0 T0 F wz) := Lib.hid ⟨⟨_, MS.pts0 (fun _ => (0, 0)), fun q hq => by omega⟩, MB.out.ext xz, XB.out.trans xz, FL.out, by rw [hW]; exact (Blk.new _ _ _).alloc _, by rw [hW]; exact Blk.at_ _ _ (by simp), fun hf => by have := MB.out.lt _ hf; omega, fun hf => by have := MB.out.lt _ hf; omega, XB.out.below.size, by have := XB.out.below.size; omega⟩
  clear hW xz MB FL HP hp0 hp1 hp2 hp3 XB x1 x2 x3 x4 x5 x6 x7 x8
  generalize wb.heap.size = g at *
  go_loopw [13] (fun jv wr => ∃ (j : Nat) (jz : Int) (S : MS) (F : Nat → Prop), j ≤ 2 ∧ jv = .int .i64 jz ∧ jz = j ∧ StP w m g (g + 1) p0 p1 p2 p3 j S F wr) (fun jv _ => 2 - (intOf jv).toNat)
  case atStart => exact ⟨0, 0, T0, F, by omega, rfl, rfl, I0.out⟩
  case round =>
    clear I0
    obtain ⟨j, jz, S, F', hj, rfl, hz, I⟩ := hrel
    rcases (show j = 0 ∨ j = 1 ∨ j = 2 by omega) with rfl | rfl | rfl
    · skip
      obtain rfl : jz = 0 := by omega
      clear hz
      obtain ⟨f, hP, hf⟩ := I.pts
      obtain ⟨S3, st, hP3⟩ := hP.step (by omega) p0 p1 (fits_yes (by omega) (by omega)) (fits_yes (by omega) (by omega))
      have st : MS.Step S 23 p0 p1 S3 := st
      have C26 : Hid (∀ W [x : IsExt wr W], Calls Tryz.prog 27 #[.pointer (some ⟨m, 0, none⟩), .int .i64 26, .agg #[.bool true, .int .i64 18], .slice none 0 0] W fun e w' => e = .returned (.tuple #[.agg #[.bool true, .int .i64 23], .bool true]) ∧ Goes F' m (S.make 18 0) W w') := Lib.hid (fun W x => pop0 (I.mm.ext x.out) 26 (.inr (.inr (.inr rfl))) true 18 (.inl rfl) st.cl true true 23 (fun W' x' => by
        have q := pa26 ((I.mm.ext x.out).ext x') st.p0 18
        rw [st.ok, st.nid] at q; exact q))
      have C0 : Hid (∀ W F', M W F' m (S.make 18 0) → Calls Tryz.prog 29 #[.pointer (some ⟨m, 0, none⟩), .int .i64 23, .int .i64 0, .agg #[.bool false, .int .i64 p0]] W fun e w' => e = .returned (.bool true) ∧ M w' F' m ((S.make 18 0).set 23 0 (num p0)) ∧ Keep F' W w') := Lib.hid (fun W F' hM => by
        have q := mset hM st.p1 23 0 (num p0); rw [st.o1] at q; exact q)
      have C1 : Hid (∀ W F', M W F' m ((S.make 18 0).set 23 0 (num p0)) → Calls Tryz.prog 29 #[.pointer (some ⟨m, 0, none⟩), .int .i64 23, .int .i64 1, .agg #[.bool false, .int .i64 p1]] W fun e w' => e = .returned (.bool true) ∧ M w' F' m S3 ∧ Keep F' W w') := Lib.hid (fun W F' hM => by
        have q := mset hM st.p2 23 1 (num p1); rw [st.o2, ← st.e] at q; exact q)
      have II := Lib.hid I
      have PP := Lib.hid (And.intro hf hP3)
      clear I hP st hf hP3
      generalize (S.make 18 0).set 23 0 (num p0) = Q2 at *
      generalize S.make 18 0 = Q1 at *
      go_wp2_with fail
      refine (HO.out _ _).mono ?_
      rintro e wc ⟨rfl, xc⟩
      have ic : IsExt wr wc := ⟨xc⟩
      clear xc
      go_wp2_with fail
      refine (C26.out _).mono ?_
      rintro e wd ⟨rfl, F4, m4, v4⟩
      have v4 := (Mov.of_ext ic.out).trans v4
      obtain ⟨b11, n11⟩ := v4.blk II.out.b11 II.out.n11
      obtain ⟨b12, n12⟩ := v4.blk II.out.b12 II.out.n12
      have FL4 : Hid (∀ k, F4 k → w.heap.size ≤ k) := Lib.hid (fun k hk => by
        rcases v4.new k hk with h | h
        · exact II.out.fl k h
        · have := II.out.x.below.size; omega)
      have X4 : Hid (Ext w wd) := Lib.hid (Ext.of_below (Keep.below II.out.x.below v4.keep II.out.x.below.size (fun i hi h => by have := II.out.fl i h; omega)))
      have M4 := Lib.hid m4
      have B11 := Lib.hid b11
      have B12 := Lib.hid b12
      have N11 := Lib.hid n11
      have N12 := Lib.hid n12
      clear v4 m4 C26 ic b11 b12 n11 n12
      go_upto_region 10 with (fail)
      refine wp_name (fun we hW => ?_)
      have xe : Ext wd we := by rw [hW]; exact is_ext _ _
      have B14 : Hid (Blk we wd.heap.size 40 #[.bool true, .int .i64 23]) := Lib.hid (by rw [hW]; exact Blk.new _ _ _)
      have N14 : Hid (¬ F4 wd.heap.size) := Lib.hid (fun hf => by have := M4.out.lt _ hf; omega)
      replace B11 := Lib.hid (B11.out.ext xe)
      replace B12 := Lib.hid (B12.out.ext xe)
      replace M4 := Lib.hid (M4.out.ext xe)
      replace X4 := Lib.hid (X4.out.trans xe)
      clear hW xe
      generalize wd.heap.size = g14 at *
      have iE : IsExt we we := ⟨Ext.refl _⟩
      obtain ⟨r1, r2, r3⟩ := B11.out.rules
      obtain ⟨q1, q2, q3⟩ := B14.out.rules
      have CA := Lib.hid (fun W [x : IsExt we W] => C0.out W F4 (M4.out.ext x.out))
      clear C0 M4
      have wr0 : IntKind.i64.wrap 0 = 0 := by decide
      have wr1 : IntKind.i64.wrap 1 = 1 := by decide
      go_region_held3 (fun w' => w'.cell? ⟨g14, 1, none⟩ = some (.int .i64 23) ∧ w'.cell? ⟨g, 0, none⟩ = some (.int .i64 p0) ∧ w'.cell? ⟨g, 1, none⟩ = some (.int .i64 p1)) (first | exact ⟨q1 1, r1 0, r1 1⟩ | go_keep) ((first | (go_at_call 29; refine (C1.out _ _ (M6.out.ext (is_ext w6 _))).mono ?_; rintro e w7 ⟨rfl, m7, k7⟩; have B11c := Lib.hid ((B11b.out.ext (is_ext w6 _)).keep k7 N11.out); have B12c := Lib.hid ((B12b.out.ext (is_ext w6 _)).keep k7 N12.out); have B14c := Lib.hid ((B14b.out.ext (is_ext w6 _)).keep k7 N14.out); have X7 : Hid (Ext w w7) := Lib.hid (Ext.keeps (X6.out.trans (is_ext w6 _)) k7 FL4.out); have M7 := Lib.hid m7; obtain ⟨r1, r2, r3⟩ := B11c.out.rules; obtain ⟨q1, q2, q3⟩ := B14c.out.rules; clear m7 k7) | (go_at_call 29; refine (CA.out _).mono ?_; rintro e w6 ⟨rfl, m6, k6⟩; have B11b := Lib.hid ((B11.out.ext (is_ext we _)).keep k6 N11.out); have B12b := Lib.hid ((B12.out.ext (is_ext we _)).keep k6 N12.out); have B14b := Lib.hid ((B14.out.ext (is_ext we _)).keep k6 N14.out); have X6 : Hid (Ext w w6) := Lib.hid (Ext.keeps (X4.out.trans (is_ext we _)) k6 FL4.out); have M6 := Lib.hid m6; obtain ⟨r1, r2, r3⟩ := B11b.out.rules; obtain ⟨q1, q2, q3⟩ := B14b.out.rules; clear m6 k6)))
      obtain ⟨s1, s2, s3⟩ := (show Blk w7 (g + 1) 69 #[.bool false, .int .i64 0, .bool false, .int .i64 0] from B12c.out).rules
      have ne1 : g ≠ g + 1 := by omega
      clear B11 B12 B14 B11b B12b B14b X4 X6 M6 CA C1 B14c wr0 wr1
      go_wp2_with fail
      go_roundw
      case rel =>
        obtain ⟨hf, hP3⟩ := PP.out
        refine ⟨1, 1, S3, F4, by omega, by go_num, rfl, ⟨⟨_, hP3, fun q hq => ?_⟩, ?_, ?_, FL4.out, ?_, ?_, N11.out, N12.out, II.out.l11, II.out.l12⟩⟩
        · show (if q = 0 then (p0, p1) else f q) = _
          by_cases hq' : q = 0
          · subst hq'; rfl
          · rw [if_neg hq']; exact hf q (by omega)
        · exact M7.out.far (((Keep.refl (· = g + 1) w7).setCell (p := ⟨g + 1, 0, none⟩) rfl _).setCell (p := ⟨g + 1, 1, none⟩) rfl _) (fun j e hf => N12.out (e ▸ hf))
        · exact (X7.out.setNew (p := ⟨g + 1, 0, none⟩) II.out.l12 _).setNew (p := ⟨g + 1, 1, none⟩) II.out.l12 _
        · exact (B11c.out.far (p := ⟨g + 1, 0, none⟩) ne1 _).far (p := ⟨g + 1, 1, none⟩) ne1 _
        · exact (B12c.out.set 0 _).set 1 _
      case measure => simp [intOf]
    · skip
      obtain rfl : jz = 1 := by omega
      clear hz
      obtain ⟨f, hP, hf⟩ := I.pts
      obtain ⟨S3, st, hP3⟩ := hP.step (by omega) p2 p3 (fits_yes (by omega) (by omega)) (fits_yes (by omega) (by omega))
      have st : MS.Step S 24 p2 p3 S3 := st
      have C26 : Hid (∀ W [x : IsExt wr W], Calls Tryz.prog 27 #[.pointer (some ⟨m, 0, none⟩), .int .i64 26, .agg #[.bool true, .int .i64 18], .slice none 0 0] W fun e w' => e = .returned (.tuple #[.agg #[.bool true, .int .i64 24], .bool true]) ∧ Goes F' m (S.make 18 0) W w') := Lib.hid (fun W x => pop0 (I.mm.ext x.out) 26 (.inr (.inr (.inr rfl))) true 18 (.inl rfl) st.cl true true 24 (fun W' x' => by
        have q := pa26 ((I.mm.ext x.out).ext x') st.p0 18
        rw [st.ok, st.nid] at q; exact q))
      have C0 : Hid (∀ W F', M W F' m (S.make 18 0) → Calls Tryz.prog 29 #[.pointer (some ⟨m, 0, none⟩), .int .i64 24, .int .i64 0, .agg #[.bool false, .int .i64 p2]] W fun e w' => e = .returned (.bool true) ∧ M w' F' m ((S.make 18 0).set 24 0 (num p2)) ∧ Keep F' W w') := Lib.hid (fun W F' hM => by
        have q := mset hM st.p1 24 0 (num p2); rw [st.o1] at q; exact q)
      have C1 : Hid (∀ W F', M W F' m ((S.make 18 0).set 24 0 (num p2)) → Calls Tryz.prog 29 #[.pointer (some ⟨m, 0, none⟩), .int .i64 24, .int .i64 1, .agg #[.bool false, .int .i64 p3]] W fun e w' => e = .returned (.bool true) ∧ M w' F' m S3 ∧ Keep F' W w') := Lib.hid (fun W F' hM => by
        have q := mset hM st.p2 24 1 (num p3); rw [st.o2, ← st.e] at q; exact q)
      have II := Lib.hid I
      have PP := Lib.hid (And.intro hf hP3)
      clear I hP st hf hP3
      generalize (S.make 18 0).set 24 0 (num p2) = Q2 at *
      generalize S.make 18 0 = Q1 at *
      go_wp2_with fail
      refine (HO.out _ _).mono ?_
      rintro e wc ⟨rfl, xc⟩
      have ic : IsExt wr wc := ⟨xc⟩
      clear xc
      go_wp2_with fail
      refine (C26.out _).mono ?_
      rintro e wd ⟨rfl, F4, m4, v4⟩
      have v4 := (Mov.of_ext ic.out).trans v4
      obtain ⟨b11, n11⟩ := v4.blk II.out.b11 II.out.n11
      obtain ⟨b12, n12⟩ := v4.blk II.out.b12 II.out.n12
      have FL4 : Hid (∀ k, F4 k → w.heap.size ≤ k) := Lib.hid (fun k hk => by
        rcases v4.new k hk with h | h
        · exact II.out.fl k h
        · have := II.out.x.below.size; omega)
      have X4 : Hid (Ext w wd) := Lib.hid (Ext.of_below (Keep.below II.out.x.below v4.keep II.out.x.below.size (fun i hi h => by have := II.out.fl i h; omega)))
      have M4 := Lib.hid m4
      have B11 := Lib.hid b11
      have B12 := Lib.hid b12
      have N11 := Lib.hid n11
      have N12 := Lib.hid n12
      clear v4 m4 C26 ic b11 b12 n11 n12
      go_upto_region 10 with (fail)
      refine wp_name (fun we hW => ?_)
      have xe : Ext wd we := by rw [hW]; exact is_ext _ _
      have B14 : Hid (Blk we wd.heap.size 40 #[.bool true, .int .i64 24]) := Lib.hid (by rw [hW]; exact Blk.new _ _ _)
      have N14 : Hid (¬ F4 wd.heap.size) := Lib.hid (fun hf => by have := M4.out.lt _ hf; omega)
      replace B11 := Lib.hid (B11.out.ext xe)
      replace B12 := Lib.hid (B12.out.ext xe)
      replace M4 := Lib.hid (M4.out.ext xe)
      replace X4 := Lib.hid (X4.out.trans xe)
      clear hW xe
      generalize wd.heap.size = g14 at *
      have iE : IsExt we we := ⟨Ext.refl _⟩
      obtain ⟨r1, r2, r3⟩ := B11.out.rules
      obtain ⟨q1, q2, q3⟩ := B14.out.rules
      have CA := Lib.hid (fun W [x : IsExt we W] => C0.out W F4 (M4.out.ext x.out))
      clear C0 M4
      have wr0 : IntKind.i64.wrap 2 = 2 := by decide
      have wr1 : IntKind.i64.wrap 3 = 3 := by decide
      go_region_held3 (fun w' => w'.cell? ⟨g14, 1, none⟩ = some (.int .i64 24) ∧ w'.cell? ⟨g, 2, none⟩ = some (.int .i64 p2) ∧ w'.cell? ⟨g, 3, none⟩ = some (.int .i64 p3)) (first | exact ⟨q1 1, r1 2, r1 3⟩ | go_keep) ((first | (go_at_call 29; refine (C1.out _ _ (M6.out.ext (is_ext w6 _))).mono ?_; rintro e w7 ⟨rfl, m7, k7⟩; have B11c := Lib.hid ((B11b.out.ext (is_ext w6 _)).keep k7 N11.out); have B12c := Lib.hid ((B12b.out.ext (is_ext w6 _)).keep k7 N12.out); have B14c := Lib.hid ((B14b.out.ext (is_ext w6 _)).keep k7 N14.out); have X7 : Hid (Ext w w7) := Lib.hid (Ext.keeps (X6.out.trans (is_ext w6 _)) k7 FL4.out); have M7 := Lib.hid m7; obtain ⟨r1, r2, r3⟩ := B11c.out.rules; obtain ⟨q1, q2, q3⟩ := B14c.out.rules; clear m7 k7) | (go_at_call 29; refine (CA.out _).mono ?_; rintro e w6 ⟨rfl, m6, k6⟩; have B11b := Lib.hid ((B11.out.ext (is_ext we _)).keep k6 N11.out); have B12b := Lib.hid ((B12.out.ext (is_ext we _)).keep k6 N12.out); have B14b := Lib.hid ((B14.out.ext (is_ext we _)).keep k6 N14.out); have X6 : Hid (Ext w w6) := Lib.hid (Ext.keeps (X4.out.trans (is_ext we _)) k6 FL4.out); have M6 := Lib.hid m6; obtain ⟨r1, r2, r3⟩ := B11b.out.rules; obtain ⟨q1, q2, q3⟩ := B14b.out.rules; clear m6 k6)))
      obtain ⟨s1, s2, s3⟩ := (show Blk w7 (g + 1) 69 #[.bool true, .int .i64 23, .bool false, .int .i64 0] from B12c.out).rules
      have ne1 : g ≠ g + 1 := by omega
      clear B11 B12 B14 B11b B12b B14b X4 X6 M6 CA C1 B14c wr0 wr1
      go_wp2_with fail
      go_roundw
      case rel =>
        obtain ⟨hf, hP3⟩ := PP.out
        refine ⟨2, 2, S3, F4, by omega, by go_num, rfl, ⟨⟨_, hP3, fun q hq => ?_⟩, ?_, ?_, FL4.out, ?_, ?_, N11.out, N12.out, II.out.l11, II.out.l12⟩⟩
        · show (if q = 1 then (p2, p3) else f q) = _
          by_cases hq' : q = 1
          · subst hq'; rfl
          · rw [if_neg hq']; exact hf q (by omega)
        · exact M7.out.far (((Keep.refl (· = g + 1) w7).setCell (p := ⟨g + 1, 2, none⟩) rfl _).setCell (p := ⟨g + 1, 3, none⟩) rfl _) (fun j e hf => N12.out (e ▸ hf))
        · exact (X7.out.setNew (p := ⟨g + 1, 2, none⟩) II.out.l12 _).setNew (p := ⟨g + 1, 3, none⟩) II.out.l12 _
        · exact (B11c.out.far (p := ⟨g + 1, 2, none⟩) ne1 _).far (p := ⟨g + 1, 3, none⟩) ne1 _
        · exact (B12c.out.set 2 _).set 3 _
      case measure => simp [intOf]
    · skip
      obtain rfl : jz = 2 := by omega
      clear hz
      obtain ⟨f, hP, hf⟩ := I.pts
      obtain ⟨sx, sy, q02, q13, q03, q12, tx, ty, s00, s11, kk, jj, z, NN⟩ := pnums_ p0 p1 p2 p3 h0 h1 h2 h3
      have bb : (-200 ≤ sx ∧ sx ≤ 200) ∧ (-200 ≤ sy ∧ sy ≤ 200) ∧ (-20000 ≤ tx ∧ tx ≤ 20000) ∧ (-20000 ≤ ty ∧ ty ≤ 20000) := by
        obtain ⟨e1, e2, _, _, _, _, e7, e8, _, _, _, _, _, _, c1, c2, c3, c4, _, _, _, _⟩ := NN
        omega
      obtain ⟨u1, u2, u3, u4⟩ := bb
      have f0 : f 0 = (p0, p1) := hf 0 (by omega)
      have f1 : f 1 = (p2, p3) := hf 1 (by omega)
      obtain ⟨S3, st3, hP3⟩ := hP.step (by omega) sx sy (fits_yes (by omega) (by omega)) (fits_yes (by omega) (by omega))
      obtain ⟨S4, st4, hP4⟩ := hP3.step (by omega) tx ty (fits_yes (by omega) (by omega)) (fits_yes (by omega) (by omega))
      have st3 : MS.Step S 25 sx sy S3 := st3
      have st4 : MS.Step S3 26 tx ty S4 := st4
      have P23 : MS.Pt S 23 (num (f 0).1) (num (f 0).2) := hP.p 0 (by omega)
      have P24 : MS.Pt S 24 (num (f 1).1) (num (f 1).2) := hP.p 1 (by omega)
      have P23b : MS.Pt S3 23 (num (f 0).1) (num (f 0).2) := hP3.p 0 (by omega)
      have P24b : MS.Pt S3 24 (num (f 1).1) (num (f 1).2) := hP3.p 1 (by omega)
      have P23c : MS.Pt S4 23 (num (f 0).1) (num (f 0).2) := hP4.p 0 (by omega)
      have P24c : MS.Pt S4 24 (num (f 1).1) (num (f 1).2) := hP4.p 1 (by omega)
      have P25 : MS.Pt S4 25 (num sx) (num sy) := hP4.p 2 (by omega)
      have P26 : MS.Pt S4 26 (num tx) (num ty) := hP4.p 3 (by omega)
      rw [f0] at P23 P23b P23c
      rw [f1] at P24 P24b P24c
      have i0 : Plane.inB p0 = true := decide_eq_true (by omega)
      have i1 : Plane.inB p1 = true := decide_eq_true (by omega)
      have i2 : Plane.inB p2 = true := decide_eq_true (by omega)
      have i3 : Plane.inB p3 = true := decide_eq_true (by omega)
      have isx : Plane.inB sx = true := decide_eq_true (by omega)
      have isy : Plane.inB sy = true := decide_eq_true (by omega)
      have itx : Plane.inB tx = true := decide_eq_true (by omega)
      have ity : Plane.inB ty = true := decide_eq_true (by omega)
      have CO1 := Lib.hid (fun W => Plane.op1_in W p0 p1 p2 p3 i0 i1 i2 i3 NN.e1 NN.e2 isx isy)
      have CO3 := Lib.hid (fun W => Plane.op3_in W p0 p1 p2 p3 i0 i1 i2 i3 (show p0 * p2 - p1 * p3 = tx by rw [NN.e3, NN.e4]; exact NN.e7) (show p0 * p3 + p1 * p2 = ty by rw [NN.e5, NN.e6]; exact NN.e8) itx ity)
      have fz : fitsB z = true := fits_yes (by have := NN.b8; omega) (by have := NN.b8; omega)
      have fk : fitsB kk = true := fits_yes (by have := NN.e11; have := NN.b5; have := NN.b6; omega) (by have := NN.e11; have := NN.b5; have := NN.b6; omega)
      have fj : fitsB jj = true := fits_yes (by have := NN.b7; omega) (by have := NN.b7; omega)
      have NH := Lib.hid NN
      have II := Lib.hid I
      obtain ⟨t1, t2, t3⟩ := (show Blk wr (g + 1) 69 #[.bool true, .int .i64 23, .bool true, .int .i64 24] from I.b12).rules
      have PQ := Lib.hid (And.intro P23 (And.intro P24 (And.intro P23b (And.intro P24b (And.intro P23c (And.intro P24c (And.intro P25 P26)))))))
      have SS := Lib.hid (And.intro st3 st4)
      have IB := Lib.hid (And.intro i0 (And.intro i1 (And.intro i2 (And.intro i3 (And.intro itx (And.intro ity (And.intro fz (And.intro fk fj))))))))
      clear I hP hf hP3 hP4 NN f0 f1 P23 P24 P23b P24b P23c P24c P25 P26 st3 st4 i0 i1 i2 i3 isx isy itx ity fz fk fj u1 u2 u3 u4
      go_wp2_with fail
      refine calls_name (fun wg hW => ?_)
      have xg : Ext wr wg := by rw [hW]; exact is_ext _ _
      have bs : Blk wg wr.heap.size 40 #[.bool true, .int .i64 24] := by rw [hW]; exact Blk.new _ _ _
      have C34 := Lib.hid (pop34 (II.out.mm.ext xg) 34 1 (.inl ⟨rfl, rfl⟩) 23 24 PQ.out.1.has PQ.out.2.1.has wr.heap.size 1 bs 25 (fun W x => ppoints ((II.out.mm.ext xg).ext x) SS.out.1 PQ.out.1 PQ.out.2.1 1 CO1.out))
      clear hW bs t1 t2 t3
      generalize wr.heap.size = gs0 at *
      refine C34.out.mono ?_
      rintro e wh ⟨rfl, F5, m5, v5⟩
      have v5 := (Mov.of_ext xg).trans v5
      obtain ⟨b11, n11⟩ := v5.blk II.out.b11 II.out.n11
      obtain ⟨b12, n12⟩ := v5.blk II.out.b12 II.out.n12
      have FL5 : Hid (∀ k, F5 k → w.heap.size ≤ k) := Lib.hid (fun k hk => by
        rcases v5.new k hk with h | h
        · exact II.out.fl k h
        · have := II.out.x.below.size; omega)
      have X5 : Hid (Ext w wh) := Lib.hid (Ext.keeps II.out.x v5.keep II.out.fl)
      have M5 := Lib.hid m5
      have B11 := Lib.hid b11
      have B12 := Lib.hid b12
      have N11 := Lib.hid n11
      have N12 := Lib.hid n12
      clear v5 m5 C34 xg b11 b12 n11 n12 II
      go_upto_region 14 with (fail)
      refine wp_name (fun wi hW => ?_)
      have xi : Ext wh wi := by rw [hW]; exact is_ext _ _
      have B16 : Hid (Blk wi wh.heap.size 40 #[.bool true, .int .i64 25]) := Lib.hid (by rw [hW]; exact Blk.new _ _ _)
      have N16 : Hid (¬ F5 wh.heap.size) := Lib.hid (fun hf => by have := M5.out.lt _ hf; omega)
      replace B11 := Lib.hid (B11.out.ext xi)
      replace B12 := Lib.hid (B12.out.ext xi)
      replace M5 := Lib.hid (M5.out.ext xi)
      replace X5 := Lib.hid (X5.out.trans xi)
      clear hW xi
      generalize wh.heap.size = g16 at *
      obtain ⟨t1, t2, t3⟩ := (show Blk wi (g + 1) 69 #[.bool true, .int .i64 23, .bool true, .int .i64 24] from B12.out).rules
      go_wp2_with fail
      refine calls_name (fun wg hW => ?_)
      have xg : Ext wi wg := by rw [hW]; exact is_ext _ _
      have bs : Blk wg wi.heap.size 40 #[.bool true, .int .i64 24] := by rw [hW]; exact Blk.new _ _ _
      have C36 := Lib.hid (pop34 (M5.out.ext xg) 36 3 (.inr ⟨rfl, rfl⟩) 23 24 PQ.out.2.2.1.has PQ.out.2.2.2.1.has wi.heap.size 1 bs 26 (fun W x => ppoints ((M5.out.ext xg).ext x) SS.out.2 PQ.out.2.2.1 PQ.out.2.2.2.1 3 CO3.out))
      clear hW bs t1 t2 t3
      generalize wi.heap.size = gs1 at *
      refine C36.out.mono ?_
      rintro e wj ⟨rfl, F6, m6, v6⟩
      have v6 := (Mov.of_ext xg).trans v6
      obtain ⟨b11, n11⟩ := v6.blk B11.out N11.out
      obtain ⟨b12, n12⟩ := v6.blk B12.out N12.out
      obtain ⟨b16, n16⟩ := v6.blk B16.out N16.out
      have X6 : Hid (Ext w wj) := Lib.hid (Ext.keeps X5.out v6.keep FL5.out)
      have M6 := Lib.hid m6
      have B11' := Lib.hid b11
      have B12' := Lib.hid b12
      have B16' := Lib.hid b16
      clear v6 m6 C36 xg b11 b12 n11 n12 b16 n16 B11 B12 B16 N11 N12 N16 X5 M5 FL5 CO1 CO3 SS
      go_upto_region 15 with (fail)
      refine wp_name (fun wz hW => ?_)
      have xz : Ext wj wz := by rw [hW]; exact is_ext _ _
      have B18 : Hid (Blk wz wj.heap.size 40 #[.bool true, .int .i64 26]) := Lib.hid (by rw [hW]; exact Blk.new _ _ _)
      have B11 := Lib.hid (B11'.out.ext xz)
      have B12 : Hid (Blk wz (g + 1) 69 #[.bool true, .int .i64 23, .bool true, .int .i64 24]) := Lib.hid (B12'.out.ext xz)
      have B16 := Lib.hid (B16'.out.ext xz)
      have MZ := Lib.hid (M6.out.ext xz)
      have XZ := Lib.hid (X6.out.trans xz)
      clear hW xz B11' B12' B16' M6 X6
      generalize wj.heap.size = g18 at *
      have iz : IsExt wz wz := ⟨Ext.refl _⟩
      have CA := Lib.hid (fun W [x : IsExt wz W] => pop38 (MZ.out.ext x.out) true 26 PQ.out.2.2.2.2.2.2.2.has false true z (fun W' x' => pa38 ((MZ.out.ext x.out).ext x') PQ.out.2.2.2.2.2.2.2 IB.out.2.2.2.2.1 IB.out.2.2.2.2.2.1 NH.out.e14 IB.out.2.2.2.2.2.2.1))
      have CB := Lib.hid (fun W [x : IsExt wz W] => pop38 (MZ.out.ext x.out) true 23 PQ.out.2.2.2.2.1.has false true kk (fun W' x' => pa38 ((MZ.out.ext x.out).ext x') PQ.out.2.2.2.2.1 IB.out.1 IB.out.2.1 (show p0 * p0 + p1 * p1 = kk by rw [NH.out.e9, NH.out.e10]; exact NH.out.e11) IB.out.2.2.2.2.2.2.2.1))
      have CC := Lib.hid (fun W [x : IsExt wz W] => pop38 (MZ.out.ext x.out) true 24 PQ.out.2.2.2.2.2.1.has false true jj (fun W' x' => pa38 ((MZ.out.ext x.out).ext x') PQ.out.2.2.2.2.2.1 IB.out.2.2.1 IB.out.2.2.2.1 NH.out.e13 IB.out.2.2.2.2.2.2.2.2))
      have CG := Lib.hid (fun W [x : IsExt wz W] i j => mget (MZ.out.ext x.out) i j)
      have v1 : val (S4.get 25 0) = .agg #[.bool false, .int .i64 sx] := by rw [PQ.out.2.2.2.2.2.2.1.g0]; rfl
      have v2 : val (S4.get 25 1) = .agg #[.bool false, .int .i64 sy] := by rw [PQ.out.2.2.2.2.2.2.1.g1]; rfl
      have v3 : val (S4.get 26 0) = .agg #[.bool false, .int .i64 tx] := by rw [PQ.out.2.2.2.2.2.2.2.g0]; rfl
      have v4 : val (S4.get 26 1) = .agg #[.bool false, .int .i64 ty] := by rw [PQ.out.2.2.2.2.2.2.2.g1]; rfl
      clear PQ IB
      obtain ⟨y1, y2, y3⟩ := B18.out.rules
      go_wp2_with fail
      refine (CA.out _).mono ?_
      rintro e wq ⟨rfl, xq⟩
      have iq : IsExt wz wq := ⟨(is_ext wz _).trans xq⟩
      clear xq CA y1 y2 y3
      go_upto_region 16 with (fail)
      refine wp_name (fun wk hW => ?_)
      have xk : Ext wq wk := by rw [hW]; exact is_ext _ _
      have ik : IsExt wz wk := ⟨iq.out.trans xk⟩
      have B20 : Hid (Blk wk wq.heap.size 40 #[.bool false, .int .i64 z]) := Lib.hid (by rw [hW]; exact Blk.new _ _ _)
      clear hW xk iq
      generalize wq.heap.size = g20 at *
      obtain ⟨t1, t2, t3⟩ := (B12.out.ext ik.out).rules
      go_wp2_with fail
      refine (CB.out _).mono ?_
      rintro e wq ⟨rfl, xq⟩
      have iq : IsExt wz wq := ⟨(ik.out.trans (is_ext wk _)).trans xq⟩
      replace B20 := Lib.hid (B20.out.ext ((is_ext wk _).trans xq))
      clear xq CB t1 t2 t3 ik
      go_upto_region 17 with (fail)
      refine wp_name (fun wl hW => ?_)
      have xk : Ext wq wl := by rw [hW]; exact is_ext _ _
      have ik : IsExt wz wl := ⟨iq.out.trans xk⟩
      have B22 : Hid (Blk wl wq.heap.size 40 #[.bool false, .int .i64 kk]) := Lib.hid (by rw [hW]; exact Blk.new _ _ _)
      replace B20 := Lib.hid (B20.out.ext xk)
      clear hW xk iq
      generalize wq.heap.size = g22 at *
      obtain ⟨t1, t2, t3⟩ := (B12.out.ext ik.out).rules
      go_wp2_with fail
      refine (CC.out _).mono ?_
      rintro e wq ⟨rfl, xq⟩
      have iq : IsExt wz wq := ⟨(ik.out.trans (is_ext wl _)).trans xq⟩
      replace B20 := Lib.hid (B20.out.ext ((is_ext wl _).trans xq))
      replace B22 := Lib.hid (B22.out.ext ((is_ext wl _).trans xq))
      clear xq CC t1 t2 t3 ik
      go_upto_region 18 with (fail)
      refine wp_name (fun wm hW => ?_)
      have xk : Ext wq wm := by rw [hW]; exact is_ext _ _
      have ik : IsExt wz wm := ⟨iq.out.trans xk⟩
      have B24 : Hid (Blk wm wq.heap.size 40 #[.bool false, .int .i64 jj]) := Lib.hid (by rw [hW]; exact Blk.new _ _ _)
      replace B20 := Lib.hid (B20.out.ext xk)
      replace B22 := Lib.hid (B22.out.ext xk)
      clear hW xk iq
      generalize wq.heap.size = g24 at *
      obtain ⟨t1, t2, t3⟩ := B20.out.rules
      obtain ⟨o1, o2, o3⟩ := B22.out.rules
      obtain ⟨l1, l2, l3⟩ := B24.out.rules
      obtain ⟨m1, m2, m3⟩ := (B11.out.ext ik.out).rules
      obtain ⟨n1, n2, n3⟩ := (B16.out.ext ik.out).rules
      obtain ⟨r1, r2, r3⟩ := (B18.out.ext ik.out).rules
      obtain ⟨e1, e2, e3, e4, e5, e6, e7, e8, e9, e10, e11, e12, e13, e14, c1, c2, c3, c4, c5, c6, c7, c8⟩ := NH.out
      clear NH e13 e14
      have XM := Lib.hid (XZ.out.trans ik.out)
      go_upto_region 20 with (fail)
      refine wp_region_ext (by kernel_rfl) (by kernel_rfl) ?_
      simp only [List.append]
      repeat (go_big_quiet_step ((first | (go_at_call 24; exact calls_ext (CG.out _ _ _)) | (go_at_call 28; exact calls_ext (AW.out _)))))
      refine wpQuiet_nil ?_
      rintro W ⟨x', rfl⟩
      go_wp2
      go_ret
      exact ⟨rfl, (XM.out.trans ⟨_, rfl⟩).below⟩
end Go.Proofs.YtnhijjcplnomgaaGreat.World
