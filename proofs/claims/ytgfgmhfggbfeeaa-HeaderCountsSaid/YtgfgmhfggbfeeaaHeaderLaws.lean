/-
  The walks of the laws of chapter 2: HeaderAll, HeaderBack, HeaderApart, HeaderCounts.
-/
import Derived.Test.YtgfgmhfggbfeeaaHeader
import Derived.Test.YtgfgmhfggbfeeaaWord
import Derived.OpenShut
import Derived.ProofKit
namespace Go.Proofs.Ytgfgmhfggbfeeaa.HeaderLaws
open Go.RowKit Go.Proofs.Ytgfgmhfggbfeeaa.Plain Go.Proofs.Ytgfgmhfggbfeeaa.Word Go.Proofs.Ytgfgmhfggbfeeaa.Header
set_option linter.unusedVariables false

set_option maxHeartbeats 1000000 in
theorem headerAll (a0 a1 a2 a3 : Int) (a4 a5 : Bool) (a6 : Int) (w0 : (Lit.int .i64 a0).wf = true) (w1 : (Lit.int .i64 a1).wf = true) (w2 : (Lit.int .i64 a2).wf = true) (w3 : (Lit.int .i64 a3).wf = true) (w6 : (Lit.int .u32 a6).wf = true) (w : World) :
    Calls Try.prog 4 #[.int .i64 a0, .int .i64 a1, .int .i64 a2, .int .i64 a3, .bool a4, .bool a5, .int .u32 a6] w fun e w' => e = .returned (.bool true) ∧ Below w.heap.size w w' := by
  obtain ⟨v1, v2⟩ := bounds_u32 w6
  clear w0 w1 w2 w3 w6
  go_enter Try.func4, Try.ntmps4
  go_wp2_with fail
  refine (put _ _ _ _ _ _ _).mono ?_
  rintro e w1 ⟨rfl, x1⟩
  go_wp2_with fail
  refine (rput _ _ _ _ _ _ _).mono ?_
  rintro e w2 ⟨rfl, x2⟩
  go_wp2_with fail
  refine (get _ _ (by omega) (by omega)).mono ?_
  rintro e w3 ⟨rfl, x3⟩
  go_wp2_with fail
  refine (rget _ _ (by omega) (by omega)).mono ?_
  rintro e w4 ⟨rfl, x4⟩
  go_wp2_with fail
  refine (same _ _ _ _ _ _ _).mono ?_
  rintro e w5 ⟨rfl, x5⟩
  go_wp2_with fail
  refine (Header.awake _).mono ?_
  rintro e w6 ⟨rfl, x6⟩
  go_wp2_with fail
  go_ret
  exact ⟨rfl, (((((x1.trans x2).trans x3).trans x4).trans x5).trans x6).below⟩

set_option maxHeartbeats 1000000 in
theorem back (a0 a1 a2 a3 : Int) (a4 a5 : Bool) (a6 : Int) (x1 : -9223372036854775808 ≤ a0) (x2 : a0 ≤ 9223372036854775807) (y1 : -9223372036854775808 ≤ a1) (y2 : a1 ≤ 9223372036854775807) (z1 : -9223372036854775808 ≤ a2) (z2 : a2 ≤ 9223372036854775807) (u1 : -9223372036854775808 ≤ a3) (u2 : a3 ≤ 9223372036854775807) (v1 : 0 ≤ a6) (v2 : a6 ≤ 4294967295) (w : World) :
    Calls Try.prog 5 #[.int .i64 a0, .int .i64 a1, .int .i64 a2, .int .i64 a3, .bool a4, .bool a5, .int .u32 a6] w fun e w' => e = .returned (.bool true) ∧ Below w.heap.size w w' := by
  obtain ⟨b1, b2⟩ := putN_bd (a0 % 65536) (a1 % 4) (a2 % 4) (a3 % 4) a4 a5
  have eo : bits .or .u32 (putN (a0 % 65536) (a1 % 4) (a2 % 4) (a3 % 4) a4 a5) (a6 * 16777216 % 4294967296) = putN (a0 % 65536) (a1 % 4) (a2 % 4) (a3 % 4) a4 a5 + a6 % 256 * 16777216 := by
    rw [show a6 * 16777216 % 4294967296 = a6 % 256 * 16777216 from by omega]
    exact u32_or_sum _ (a6 % 256) 24 (by omega) (by omega) (by omega) (by omega) (by omega)
  have g1 := got_s (a0 % 65536) (a1 % 4) (a2 % 4) (a3 % 4) a4 a5
  have g2 := got_f (a0 % 65536) (a1 % 4) (a2 % 4) (a3 % 4) a4 a5
  have g3 := got_o (a0 % 65536) (a1 % 4) (a2 % 4) (a3 % 4) a4 a5
  have g4 := got_c (a0 % 65536) (a1 % 4) (a2 % 4) (a3 % 4) a4 a5
  have g5 := got_i (a0 % 65536) (a1 % 4) (a2 % 4) (a3 % 4) a4 a5
  have g6 := got_l (a0 % 65536) (a1 % 4) (a2 % 4) (a3 % 4) a4 a5
  rw [show a0 % 65536 % 65536 = a0 % 65536 from by omega] at g1
  rw [show a1 % 4 % 4 = a1 % 4 from by omega] at g2
  rw [show a2 % 4 % 4 = a2 % 4 from by omega] at g3
  rw [show a3 % 4 % 4 = a3 % 4 from by omega] at g4
  generalize hW : putN (a0 % 65536) (a1 % 4) (a2 % 4) (a3 % 4) a4 a5 = W at *
  have k1 := g1 0
  have k2 := g2 0
  have k3 := g3 0
  have k4 := g4 0
  have k5 := g5 0
  have k6 := g6 0
  have l1 := g1 (a6 % 256)
  have l2 := g2 (a6 % 256)
  have l3 := g3 (a6 % 256)
  have l4 := g4 (a6 % 256)
  have l5 := g5 (a6 % 256)
  have l6 := g6 (a6 % 256)
  clear g1 g2 g3 g4 g5 g6
  simp only [Int.zero_mul, Int.add_zero] at k1 k2 k3 k4 k5 k6
  go_enter Try.func5, Try.ntmps5
  go_wp2_with (go_at_call 16; refine (place _ _ _ (by omega) (by omega) (by omega) (by omega)).mono ?_; rintro e w' ⟨rfl, rfl⟩)
  refine (put _ _ _ _ _ _ _).mono ?_
  rintro e w1 ⟨rfl, x1⟩
  have B1 := (Blk.new w 31 #[.int .i64 (a0 % 65536), .int .i64 (a1 % 4), .int .i64 (a2 % 4), .int .i64 (a3 % 4), .bool a4, .bool a5]).ext x1
  have E1 : Ext w w1 := ((Ext.refl w).alloc _).trans x1
  clear x1
  go_wp2_with fail
  refine (get _ _ (by omega) (by omega)).mono ?_
  rintro e w2 ⟨rfl, x2⟩
  go_wp2_with fail
  refine wp_name fun W3 hW3 => ?_
  replace B1 := (B1.ext x2).alloc' hW3
  have B2 := Blk.new' hW3
  have E3 := (E1.trans x2).alloc' hW3
  obtain ⟨c1, f1, z1⟩ := B1.rules
  obtain ⟨c2, f2, z2⟩ := B2.rules
  clear hW3 x2 E1
  refine wp_region_ext (by kernel_rfl) (by kernel_rfl) ?_
  repeat (go_big_quiet_step ((first | (go_at_call 20; exact calls_ext (put _ _ _ _ _ _ _)) | (go_at_call 23; exact calls_ext (get _ _ (by omega) (by omega))) | (go_at_call 25; exact calls_ext (Header.awake _)))))
  refine wpQuiet_nil ?_
  rintro _ ⟨x, rfl⟩
  go_wp2
  go_ret
  exact ⟨rfl, (E3.ext _).below⟩
theorem headerBack (a0 a1 a2 a3 : Int) (a4 a5 : Bool) (a6 : Int) (w0 : (Lit.int .i64 a0).wf = true) (w1 : (Lit.int .i64 a1).wf = true) (w2 : (Lit.int .i64 a2).wf = true) (w3 : (Lit.int .i64 a3).wf = true) (w6 : (Lit.int .u32 a6).wf = true) (w : World) :
    Calls Try.prog 5 #[.int .i64 a0, .int .i64 a1, .int .i64 a2, .int .i64 a3, .bool a4, .bool a5, .int .u32 a6] w fun e w' => e = .returned (.bool true) ∧ Below w.heap.size w w' :=
  back a0 a1 a2 a3 a4 a5 a6 (bounds_i64 w0).1 (bounds_i64 w0).2 (bounds_i64 w1).1 (bounds_i64 w1).2 (bounds_i64 w2).1 (bounds_i64 w2).2 (bounds_i64 w3).1 (bounds_i64 w3).2 (bounds_u32 w6).1 (bounds_u32 w6).2 w

set_option maxHeartbeats 2000000 in
theorem apart0 (a0 a1 a2 s f o c : Int) (i l : Bool) (x1 : 0 ≤ a0) (x2 : a0 ≤ 4294967295) (y1 : -9223372036854775808 ≤ a1) (y2 : a1 ≤ 9223372036854775807) (z1 : -9223372036854775808 ≤ a2) (z2 : a2 ≤ 9223372036854775807)
    (hs : gotS a0 = s) (hf : gotF a0 = f) (ho : gotO a0 = o) (hc : gotC a0 = c) (hi : gotI a0 = i) (hl : gotL a0 = l) (s0 : 0 ≤ s) (s1 : s < 65536) (f0 : 0 ≤ f) (f1 : f < 4) (o0 : 0 ≤ o) (o1 : o < 4) (c0 : 0 ≤ c) (c1 : c < 4)
    (hj : a1 % 6 = 0) (w : World) :
    Calls Try.prog 6 #[.int .u32 a0, .int .i64 a1, .int .i64 a2] w fun e w' => e = .returned (.bool true) ∧ Below w.heap.size w w' := by
  have hA := put_got a0
  rw [hs, hf, ho, hc, hi, hl] at hA
  have bA := putN_bd s f o c i l
  have bP := putN_bd (a2 % 65536) f o c i l
  have k1 : gotS (putN (a2 % 65536) f o c i l) = (a2 % 65536) := by have h := got_s (a2 % 65536) f o c i l 0; simp only [Int.zero_mul, Int.add_zero] at h; rw [h]; omega
  have k2 : gotF (putN (a2 % 65536) f o c i l) = f := by have h := got_f (a2 % 65536) f o c i l 0; simp only [Int.zero_mul, Int.add_zero] at h; rw [h]; omega
  have k3 : gotO (putN (a2 % 65536) f o c i l) = o := by have h := got_o (a2 % 65536) f o c i l 0; simp only [Int.zero_mul, Int.add_zero] at h; rw [h]; omega
  have k4 : gotC (putN (a2 % 65536) f o c i l) = c := by have h := got_c (a2 % 65536) f o c i l 0; simp only [Int.zero_mul, Int.add_zero] at h; rw [h]; omega
  have k5 : gotI (putN (a2 % 65536) f o c i l) = i := by have h := got_i (a2 % 65536) f o c i l 0; simp only [Int.zero_mul, Int.add_zero] at h; rw [h]
  have k6 : gotL (putN (a2 % 65536) f o c i l) = l := by have h := got_l (a2 % 65536) f o c i l 0; simp only [Int.zero_mul, Int.add_zero] at h; rw [h]
  have em : (putN s f o c i l == bits .and .u32 a0 16777215) = true := by rw [u32_and24 a0 x1 (by omega), hA]; simp
  have en : (bits .andNot .u32 (putN s f o c i l) 65535 == bits .andNot .u32 (putN (a2 % 65536) f o c i l) 65535) = true := by
    rw [andNot0 _ (by omega) (by omega), andNot0 _ (by omega) (by omega), beq_iff_eq]
    have q1 := bitN_bd i
    have q2 := bitN_bd l
    skip
    unfold putN
    omega
  have Hs := Lib.hid hs
  have Hf := Lib.hid hf
  have Ho := Lib.hid ho
  have Hc := Lib.hid hc
  have Hi := Lib.hid hi
  have Hl := Lib.hid hl
  clear hs hf ho hc hi hl hA
  obtain ⟨A, eA⟩ : ∃ A, A = putN s f o c i l := ⟨_, rfl⟩
  obtain ⟨P, eP⟩ : ∃ P, P = putN (a2 % 65536) f o c i l := ⟨_, rfl⟩
  rw [← eA] at bA em en
  rw [← eP] at bP k1 k2 k3 k4 k5 k6 en
  have HA := Lib.hid eA
  have HP := Lib.hid eP
  clear eA eP
  have ix : ∀ w, (Instr.index 39 (.agg #[.int .u32 65535, .int .u32 196608, .int .u32 786432, .int .u32 3145728, .int .u32 4194304, .int .u32 8388608]) (.int .i64 0)).run Try.prog w = .ok (.int .u32 65535) w := fun _ => by kernel_rfl
  have pA := Lib.hid (show ∀ W, Calls Try.prog 20 #[.agg #[.int .i64 s, .int .i64 f, .int .i64 o, .int .i64 c, .bool i, .bool l]] W fun e w' => e = .returned (.int .u32 A) ∧ Ext W w' from fun W => by rw [HA.out]; exact put _ _ _ _ _ _ _)
  have pP := Lib.hid (show ∀ W, Calls Try.prog 20 #[.agg #[.int .i64 (a2 % 65536), .int .i64 f, .int .i64 o, .int .i64 c, .bool i, .bool l]] W fun e w' => e = .returned (.int .u32 P) ∧ Ext W w' from fun W => by rw [HP.out]; exact put _ _ _ _ _ _ _)
  go_enter Try.func6, Try.ntmps6
  go_wp2_with fail
  refine (get _ _ (by omega) (by omega)).mono ?_
  rintro e w1 ⟨rfl, x1⟩
  rw [Hs.out, Hf.out, Ho.out, Hc.out, Hi.out, Hl.out]
  have E1 : Ext w w1 := x1
  clear x1
  go_wp2_with (go_at_call 16; refine (place _ _ _ (by omega) (by omega) (by omega) (by omega)).mono ?_; rintro e w' ⟨rfl, rfl⟩)
  refine (put _ _ _ _ _ _ _).mono ?_
  rintro e w2 ⟨rfl, x2⟩
  rw [← HP.out]
  have B1 := ((Blk.new w1 31 #[.int .i64 s, .int .i64 f, .int .i64 o, .int .i64 c, .bool i, .bool l]).alloc (.cells #[.int .i64 (a2 % 65536), .int .i64 f, .int .i64 o, .int .i64 c, .bool i, .bool l] 31)).ext x2
  have B2 := (Blk.new (w1.alloc (.cells #[.int .i64 s, .int .i64 f, .int .i64 o, .int .i64 c, .bool i, .bool l] 31)) 31 #[.int .i64 (a2 % 65536), .int .i64 f, .int .i64 o, .int .i64 c, .bool i, .bool l]).ext x2
  rw [World.size_alloc] at B2
  have E2 : Ext w w2 := ((E1.alloc _).alloc _).trans x2
  clear x2 E1
  go_wp2_with fail
  refine (get _ _ (by omega) (by omega)).mono ?_
  rintro e w3 ⟨rfl, x3⟩
  rw [k1, k2, k3, k4, k5, k6]
  go_wp2_with (go_at_call 16; refine (place _ _ _ (by omega) (by omega) (by omega) (by omega)).mono ?_; rintro e w' ⟨rfl, rfl⟩)
  refine wp_name fun W4 hW4 => ?_
  replace B1 := (B1.ext x3).alloc' hW4
  replace B2 := (B2.ext x3).alloc' hW4
  have B3 := Blk.new' hW4
  have E4 := (E2.trans x3).alloc' hW4
  obtain ⟨q1, q2, q3⟩ := B1.rules
  obtain ⟨r1, r2, r3⟩ := B2.rules
  obtain ⟨t1, t2, t3⟩ := B3.rules
  clear hW4 x3 E2 k1 k2 k3 k4 k5 k6 ix hj
  refine wp_region_ext (by kernel_rfl) (by kernel_rfl) ?_
  repeat (go_big_quiet_step ((first | (go_at_call 20; with_reducible exact calls_ext (pA.out _)) | (go_at_call 20; with_reducible exact calls_ext (pP.out _)) | (go_at_call 25; exact calls_ext (Header.awake _)))))
  refine wpQuiet_nil ?_
  rintro _ ⟨x, rfl⟩
  go_wp2
  go_ret
  exact ⟨rfl, (E4.ext _).below⟩

set_option maxHeartbeats 2000000 in
theorem apart1 (a0 a1 a2 s f o c : Int) (i l : Bool) (x1 : 0 ≤ a0) (x2 : a0 ≤ 4294967295) (y1 : -9223372036854775808 ≤ a1) (y2 : a1 ≤ 9223372036854775807) (z1 : -9223372036854775808 ≤ a2) (z2 : a2 ≤ 9223372036854775807)
    (hs : gotS a0 = s) (hf : gotF a0 = f) (ho : gotO a0 = o) (hc : gotC a0 = c) (hi : gotI a0 = i) (hl : gotL a0 = l) (s0 : 0 ≤ s) (s1 : s < 65536) (f0 : 0 ≤ f) (f1 : f < 4) (o0 : 0 ≤ o) (o1 : o < 4) (c0 : 0 ≤ c) (c1 : c < 4)
    (hj : a1 % 6 = 1) (w : World) :
    Calls Try.prog 6 #[.int .u32 a0, .int .i64 a1, .int .i64 a2] w fun e w' => e = .returned (.bool true) ∧ Below w.heap.size w w' := by
  have hA := put_got a0
  rw [hs, hf, ho, hc, hi, hl] at hA
  have bA := putN_bd s f o c i l
  have bP := putN_bd s (a2 % 4) o c i l
  have k1 : gotS (putN s (a2 % 4) o c i l) = s := by have h := got_s s (a2 % 4) o c i l 0; simp only [Int.zero_mul, Int.add_zero] at h; rw [h]; omega
  have k2 : gotF (putN s (a2 % 4) o c i l) = (a2 % 4) := by have h := got_f s (a2 % 4) o c i l 0; simp only [Int.zero_mul, Int.add_zero] at h; rw [h]; omega
  have k3 : gotO (putN s (a2 % 4) o c i l) = o := by have h := got_o s (a2 % 4) o c i l 0; simp only [Int.zero_mul, Int.add_zero] at h; rw [h]; omega
  have k4 : gotC (putN s (a2 % 4) o c i l) = c := by have h := got_c s (a2 % 4) o c i l 0; simp only [Int.zero_mul, Int.add_zero] at h; rw [h]; omega
  have k5 : gotI (putN s (a2 % 4) o c i l) = i := by have h := got_i s (a2 % 4) o c i l 0; simp only [Int.zero_mul, Int.add_zero] at h; rw [h]
  have k6 : gotL (putN s (a2 % 4) o c i l) = l := by have h := got_l s (a2 % 4) o c i l 0; simp only [Int.zero_mul, Int.add_zero] at h; rw [h]
  have em : (putN s f o c i l == bits .and .u32 a0 16777215) = true := by rw [u32_and24 a0 x1 (by omega), hA]; simp
  have en : (bits .andNot .u32 (putN s f o c i l) 196608 == bits .andNot .u32 (putN s (a2 % 4) o c i l) 196608) = true := by
    rw [andNot1 _ (by omega) (by omega), andNot1 _ (by omega) (by omega), beq_iff_eq]
    have q1 := bitN_bd i
    have q2 := bitN_bd l
    skip
    unfold putN
    omega
  have Hs := Lib.hid hs
  have Hf := Lib.hid hf
  have Ho := Lib.hid ho
  have Hc := Lib.hid hc
  have Hi := Lib.hid hi
  have Hl := Lib.hid hl
  clear hs hf ho hc hi hl hA
  obtain ⟨A, eA⟩ : ∃ A, A = putN s f o c i l := ⟨_, rfl⟩
  obtain ⟨P, eP⟩ : ∃ P, P = putN s (a2 % 4) o c i l := ⟨_, rfl⟩
  rw [← eA] at bA em en
  rw [← eP] at bP k1 k2 k3 k4 k5 k6 en
  have HA := Lib.hid eA
  have HP := Lib.hid eP
  clear eA eP
  have ix : ∀ w, (Instr.index 39 (.agg #[.int .u32 65535, .int .u32 196608, .int .u32 786432, .int .u32 3145728, .int .u32 4194304, .int .u32 8388608]) (.int .i64 1)).run Try.prog w = .ok (.int .u32 196608) w := fun _ => by kernel_rfl
  have pA := Lib.hid (show ∀ W, Calls Try.prog 20 #[.agg #[.int .i64 s, .int .i64 f, .int .i64 o, .int .i64 c, .bool i, .bool l]] W fun e w' => e = .returned (.int .u32 A) ∧ Ext W w' from fun W => by rw [HA.out]; exact put _ _ _ _ _ _ _)
  have pP := Lib.hid (show ∀ W, Calls Try.prog 20 #[.agg #[.int .i64 s, .int .i64 (a2 % 4), .int .i64 o, .int .i64 c, .bool i, .bool l]] W fun e w' => e = .returned (.int .u32 P) ∧ Ext W w' from fun W => by rw [HP.out]; exact put _ _ _ _ _ _ _)
  go_enter Try.func6, Try.ntmps6
  go_wp2_with fail
  refine (get _ _ (by omega) (by omega)).mono ?_
  rintro e w1 ⟨rfl, x1⟩
  rw [Hs.out, Hf.out, Ho.out, Hc.out, Hi.out, Hl.out]
  have E1 : Ext w w1 := x1
  clear x1
  go_wp2_with (go_at_call 16; refine (place _ _ _ (by omega) (by omega) (by omega) (by omega)).mono ?_; rintro e w' ⟨rfl, rfl⟩)
  refine (put _ _ _ _ _ _ _).mono ?_
  rintro e w2 ⟨rfl, x2⟩
  rw [← HP.out]
  have B1 := ((Blk.new w1 31 #[.int .i64 s, .int .i64 f, .int .i64 o, .int .i64 c, .bool i, .bool l]).alloc (.cells #[.int .i64 s, .int .i64 (a2 % 4), .int .i64 o, .int .i64 c, .bool i, .bool l] 31)).ext x2
  have B2 := (Blk.new (w1.alloc (.cells #[.int .i64 s, .int .i64 f, .int .i64 o, .int .i64 c, .bool i, .bool l] 31)) 31 #[.int .i64 s, .int .i64 (a2 % 4), .int .i64 o, .int .i64 c, .bool i, .bool l]).ext x2
  rw [World.size_alloc] at B2
  have E2 : Ext w w2 := ((E1.alloc _).alloc _).trans x2
  clear x2 E1
  go_wp2_with fail
  refine (get _ _ (by omega) (by omega)).mono ?_
  rintro e w3 ⟨rfl, x3⟩
  rw [k1, k2, k3, k4, k5, k6]
  go_wp2_with (go_at_call 16; refine (place _ _ _ (by omega) (by omega) (by omega) (by omega)).mono ?_; rintro e w' ⟨rfl, rfl⟩)
  refine wp_name fun W4 hW4 => ?_
  replace B1 := (B1.ext x3).alloc' hW4
  replace B2 := (B2.ext x3).alloc' hW4
  have B3 := Blk.new' hW4
  have E4 := (E2.trans x3).alloc' hW4
  obtain ⟨q1, q2, q3⟩ := B1.rules
  obtain ⟨r1, r2, r3⟩ := B2.rules
  obtain ⟨t1, t2, t3⟩ := B3.rules
  clear hW4 x3 E2 k1 k2 k3 k4 k5 k6 ix hj
  refine wp_region_ext (by kernel_rfl) (by kernel_rfl) ?_
  repeat (go_big_quiet_step ((first | (go_at_call 20; with_reducible exact calls_ext (pA.out _)) | (go_at_call 20; with_reducible exact calls_ext (pP.out _)) | (go_at_call 25; exact calls_ext (Header.awake _)))))
  refine wpQuiet_nil ?_
  rintro _ ⟨x, rfl⟩
  go_wp2
  go_ret
  exact ⟨rfl, (E4.ext _).below⟩

set_option maxHeartbeats 2000000 in
theorem apart2 (a0 a1 a2 s f o c : Int) (i l : Bool) (x1 : 0 ≤ a0) (x2 : a0 ≤ 4294967295) (y1 : -9223372036854775808 ≤ a1) (y2 : a1 ≤ 9223372036854775807) (z1 : -9223372036854775808 ≤ a2) (z2 : a2 ≤ 9223372036854775807)
    (hs : gotS a0 = s) (hf : gotF a0 = f) (ho : gotO a0 = o) (hc : gotC a0 = c) (hi : gotI a0 = i) (hl : gotL a0 = l) (s0 : 0 ≤ s) (s1 : s < 65536) (f0 : 0 ≤ f) (f1 : f < 4) (o0 : 0 ≤ o) (o1 : o < 4) (c0 : 0 ≤ c) (c1 : c < 4)
    (hj : a1 % 6 = 2) (w : World) :
    Calls Try.prog 6 #[.int .u32 a0, .int .i64 a1, .int .i64 a2] w fun e w' => e = .returned (.bool true) ∧ Below w.heap.size w w' := by
  have hA := put_got a0
  rw [hs, hf, ho, hc, hi, hl] at hA
  have bA := putN_bd s f o c i l
  have bP := putN_bd s f (a2 % 4) c i l
  have k1 : gotS (putN s f (a2 % 4) c i l) = s := by have h := got_s s f (a2 % 4) c i l 0; simp only [Int.zero_mul, Int.add_zero] at h; rw [h]; omega
  have k2 : gotF (putN s f (a2 % 4) c i l) = f := by have h := got_f s f (a2 % 4) c i l 0; simp only [Int.zero_mul, Int.add_zero] at h; rw [h]; omega
  have k3 : gotO (putN s f (a2 % 4) c i l) = (a2 % 4) := by have h := got_o s f (a2 % 4) c i l 0; simp only [Int.zero_mul, Int.add_zero] at h; rw [h]; omega
  have k4 : gotC (putN s f (a2 % 4) c i l) = c := by have h := got_c s f (a2 % 4) c i l 0; simp only [Int.zero_mul, Int.add_zero] at h; rw [h]; omega
  have k5 : gotI (putN s f (a2 % 4) c i l) = i := by have h := got_i s f (a2 % 4) c i l 0; simp only [Int.zero_mul, Int.add_zero] at h; rw [h]
  have k6 : gotL (putN s f (a2 % 4) c i l) = l := by have h := got_l s f (a2 % 4) c i l 0; simp only [Int.zero_mul, Int.add_zero] at h; rw [h]
  have em : (putN s f o c i l == bits .and .u32 a0 16777215) = true := by rw [u32_and24 a0 x1 (by omega), hA]; simp
  have en : (bits .andNot .u32 (putN s f o c i l) 786432 == bits .andNot .u32 (putN s f (a2 % 4) c i l) 786432) = true := by
    rw [andNot2 _ (by omega) (by omega), andNot2 _ (by omega) (by omega), beq_iff_eq]
    have q1 := bitN_bd i
    have q2 := bitN_bd l
    skip
    unfold putN
    omega
  have Hs := Lib.hid hs
  have Hf := Lib.hid hf
  have Ho := Lib.hid ho
  have Hc := Lib.hid hc
  have Hi := Lib.hid hi
  have Hl := Lib.hid hl
  clear hs hf ho hc hi hl hA
  obtain ⟨A, eA⟩ : ∃ A, A = putN s f o c i l := ⟨_, rfl⟩
  obtain ⟨P, eP⟩ : ∃ P, P = putN s f (a2 % 4) c i l := ⟨_, rfl⟩
  rw [← eA] at bA em en
  rw [← eP] at bP k1 k2 k3 k4 k5 k6 en
  have HA := Lib.hid eA
  have HP := Lib.hid eP
  clear eA eP
  have ix : ∀ w, (Instr.index 39 (.agg #[.int .u32 65535, .int .u32 196608, .int .u32 786432, .int .u32 3145728, .int .u32 4194304, .int .u32 8388608]) (.int .i64 2)).run Try.prog w = .ok (.int .u32 786432) w := fun _ => by kernel_rfl
  have pA := Lib.hid (show ∀ W, Calls Try.prog 20 #[.agg #[.int .i64 s, .int .i64 f, .int .i64 o, .int .i64 c, .bool i, .bool l]] W fun e w' => e = .returned (.int .u32 A) ∧ Ext W w' from fun W => by rw [HA.out]; exact put _ _ _ _ _ _ _)
  have pP := Lib.hid (show ∀ W, Calls Try.prog 20 #[.agg #[.int .i64 s, .int .i64 f, .int .i64 (a2 % 4), .int .i64 c, .bool i, .bool l]] W fun e w' => e = .returned (.int .u32 P) ∧ Ext W w' from fun W => by rw [HP.out]; exact put _ _ _ _ _ _ _)
  go_enter Try.func6, Try.ntmps6
  go_wp2_with fail
  refine (get _ _ (by omega) (by omega)).mono ?_
  rintro e w1 ⟨rfl, x1⟩
  rw [Hs.out, Hf.out, Ho.out, Hc.out, Hi.out, Hl.out]
  have E1 : Ext w w1 := x1
  clear x1
  go_wp2_with (go_at_call 16; refine (place _ _ _ (by omega) (by omega) (by omega) (by omega)).mono ?_; rintro e w' ⟨rfl, rfl⟩)
  refine (put _ _ _ _ _ _ _).mono ?_
  rintro e w2 ⟨rfl, x2⟩
  rw [← HP.out]
  have B1 := ((Blk.new w1 31 #[.int .i64 s, .int .i64 f, .int .i64 o, .int .i64 c, .bool i, .bool l]).alloc (.cells #[.int .i64 s, .int .i64 f, .int .i64 (a2 % 4), .int .i64 c, .bool i, .bool l] 31)).ext x2
  have B2 := (Blk.new (w1.alloc (.cells #[.int .i64 s, .int .i64 f, .int .i64 o, .int .i64 c, .bool i, .bool l] 31)) 31 #[.int .i64 s, .int .i64 f, .int .i64 (a2 % 4), .int .i64 c, .bool i, .bool l]).ext x2
  rw [World.size_alloc] at B2
  have E2 : Ext w w2 := ((E1.alloc _).alloc _).trans x2
  clear x2 E1
  go_wp2_with fail
  refine (get _ _ (by omega) (by omega)).mono ?_
  rintro e w3 ⟨rfl, x3⟩
  rw [k1, k2, k3, k4, k5, k6]
  go_wp2_with (go_at_call 16; refine (place _ _ _ (by omega) (by omega) (by omega) (by omega)).mono ?_; rintro e w' ⟨rfl, rfl⟩)
  refine wp_name fun W4 hW4 => ?_
  replace B1 := (B1.ext x3).alloc' hW4
  replace B2 := (B2.ext x3).alloc' hW4
  have B3 := Blk.new' hW4
  have E4 := (E2.trans x3).alloc' hW4
  obtain ⟨q1, q2, q3⟩ := B1.rules
  obtain ⟨r1, r2, r3⟩ := B2.rules
  obtain ⟨t1, t2, t3⟩ := B3.rules
  clear hW4 x3 E2 k1 k2 k3 k4 k5 k6 ix hj
  refine wp_region_ext (by kernel_rfl) (by kernel_rfl) ?_
  repeat (go_big_quiet_step ((first | (go_at_call 20; with_reducible exact calls_ext (pA.out _)) | (go_at_call 20; with_reducible exact calls_ext (pP.out _)) | (go_at_call 25; exact calls_ext (Header.awake _)))))
  refine wpQuiet_nil ?_
  rintro _ ⟨x, rfl⟩
  go_wp2
  go_ret
  exact ⟨rfl, (E4.ext _).below⟩

set_option maxHeartbeats 2000000 in
theorem apart3 (a0 a1 a2 s f o c : Int) (i l : Bool) (x1 : 0 ≤ a0) (x2 : a0 ≤ 4294967295) (y1 : -9223372036854775808 ≤ a1) (y2 : a1 ≤ 9223372036854775807) (z1 : -9223372036854775808 ≤ a2) (z2 : a2 ≤ 9223372036854775807)
    (hs : gotS a0 = s) (hf : gotF a0 = f) (ho : gotO a0 = o) (hc : gotC a0 = c) (hi : gotI a0 = i) (hl : gotL a0 = l) (s0 : 0 ≤ s) (s1 : s < 65536) (f0 : 0 ≤ f) (f1 : f < 4) (o0 : 0 ≤ o) (o1 : o < 4) (c0 : 0 ≤ c) (c1 : c < 4)
    (hj : a1 % 6 = 3) (w : World) :
    Calls Try.prog 6 #[.int .u32 a0, .int .i64 a1, .int .i64 a2] w fun e w' => e = .returned (.bool true) ∧ Below w.heap.size w w' := by
  have hA := put_got a0
  rw [hs, hf, ho, hc, hi, hl] at hA
  have bA := putN_bd s f o c i l
  have bP := putN_bd s f o (a2 % 4) i l
  have k1 : gotS (putN s f o (a2 % 4) i l) = s := by have h := got_s s f o (a2 % 4) i l 0; simp only [Int.zero_mul, Int.add_zero] at h; rw [h]; omega
  have k2 : gotF (putN s f o (a2 % 4) i l) = f := by have h := got_f s f o (a2 % 4) i l 0; simp only [Int.zero_mul, Int.add_zero] at h; rw [h]; omega
  have k3 : gotO (putN s f o (a2 % 4) i l) = o := by have h := got_o s f o (a2 % 4) i l 0; simp only [Int.zero_mul, Int.add_zero] at h; rw [h]; omega
  have k4 : gotC (putN s f o (a2 % 4) i l) = (a2 % 4) := by have h := got_c s f o (a2 % 4) i l 0; simp only [Int.zero_mul, Int.add_zero] at h; rw [h]; omega
  have k5 : gotI (putN s f o (a2 % 4) i l) = i := by have h := got_i s f o (a2 % 4) i l 0; simp only [Int.zero_mul, Int.add_zero] at h; rw [h]
  have k6 : gotL (putN s f o (a2 % 4) i l) = l := by have h := got_l s f o (a2 % 4) i l 0; simp only [Int.zero_mul, Int.add_zero] at h; rw [h]
  have em : (putN s f o c i l == bits .and .u32 a0 16777215) = true := by rw [u32_and24 a0 x1 (by omega), hA]; simp
  have en : (bits .andNot .u32 (putN s f o c i l) 3145728 == bits .andNot .u32 (putN s f o (a2 % 4) i l) 3145728) = true := by
    rw [andNot3 _ (by omega) (by omega), andNot3 _ (by omega) (by omega), beq_iff_eq]
    have q1 := bitN_bd i
    have q2 := bitN_bd l
    skip
    unfold putN
    omega
  have Hs := Lib.hid hs
  have Hf := Lib.hid hf
  have Ho := Lib.hid ho
  have Hc := Lib.hid hc
  have Hi := Lib.hid hi
  have Hl := Lib.hid hl
  clear hs hf ho hc hi hl hA
  obtain ⟨A, eA⟩ : ∃ A, A = putN s f o c i l := ⟨_, rfl⟩
  obtain ⟨P, eP⟩ : ∃ P, P = putN s f o (a2 % 4) i l := ⟨_, rfl⟩
  rw [← eA] at bA em en
  rw [← eP] at bP k1 k2 k3 k4 k5 k6 en
  have HA := Lib.hid eA
  have HP := Lib.hid eP
  clear eA eP
  have ix : ∀ w, (Instr.index 39 (.agg #[.int .u32 65535, .int .u32 196608, .int .u32 786432, .int .u32 3145728, .int .u32 4194304, .int .u32 8388608]) (.int .i64 3)).run Try.prog w = .ok (.int .u32 3145728) w := fun _ => by kernel_rfl
  have pA := Lib.hid (show ∀ W, Calls Try.prog 20 #[.agg #[.int .i64 s, .int .i64 f, .int .i64 o, .int .i64 c, .bool i, .bool l]] W fun e w' => e = .returned (.int .u32 A) ∧ Ext W w' from fun W => by rw [HA.out]; exact put _ _ _ _ _ _ _)
  have pP := Lib.hid (show ∀ W, Calls Try.prog 20 #[.agg #[.int .i64 s, .int .i64 f, .int .i64 o, .int .i64 (a2 % 4), .bool i, .bool l]] W fun e w' => e = .returned (.int .u32 P) ∧ Ext W w' from fun W => by rw [HP.out]; exact put _ _ _ _ _ _ _)
  go_enter Try.func6, Try.ntmps6
  go_wp2_with fail
  refine (get _ _ (by omega) (by omega)).mono ?_
  rintro e w1 ⟨rfl, x1⟩
  rw [Hs.out, Hf.out, Ho.out, Hc.out, Hi.out, Hl.out]
  have E1 : Ext w w1 := x1
  clear x1
  go_wp2_with (go_at_call 16; refine (place _ _ _ (by omega) (by omega) (by omega) (by omega)).mono ?_; rintro e w' ⟨rfl, rfl⟩)
  refine (put _ _ _ _ _ _ _).mono ?_
  rintro e w2 ⟨rfl, x2⟩
  rw [← HP.out]
  have B1 := ((Blk.new w1 31 #[.int .i64 s, .int .i64 f, .int .i64 o, .int .i64 c, .bool i, .bool l]).alloc (.cells #[.int .i64 s, .int .i64 f, .int .i64 o, .int .i64 (a2 % 4), .bool i, .bool l] 31)).ext x2
  have B2 := (Blk.new (w1.alloc (.cells #[.int .i64 s, .int .i64 f, .int .i64 o, .int .i64 c, .bool i, .bool l] 31)) 31 #[.int .i64 s, .int .i64 f, .int .i64 o, .int .i64 (a2 % 4), .bool i, .bool l]).ext x2
  rw [World.size_alloc] at B2
  have E2 : Ext w w2 := ((E1.alloc _).alloc _).trans x2
  clear x2 E1
  go_wp2_with fail
  refine (get _ _ (by omega) (by omega)).mono ?_
  rintro e w3 ⟨rfl, x3⟩
  rw [k1, k2, k3, k4, k5, k6]
  go_wp2_with (go_at_call 16; refine (place _ _ _ (by omega) (by omega) (by omega) (by omega)).mono ?_; rintro e w' ⟨rfl, rfl⟩)
  refine wp_name fun W4 hW4 => ?_
  replace B1 := (B1.ext x3).alloc' hW4
  replace B2 := (B2.ext x3).alloc' hW4
  have B3 := Blk.new' hW4
  have E4 := (E2.trans x3).alloc' hW4
  obtain ⟨q1, q2, q3⟩ := B1.rules
  obtain ⟨r1, r2, r3⟩ := B2.rules
  obtain ⟨t1, t2, t3⟩ := B3.rules
  clear hW4 x3 E2 k1 k2 k3 k4 k5 k6 ix hj
  refine wp_region_ext (by kernel_rfl) (by kernel_rfl) ?_
  repeat (go_big_quiet_step ((first | (go_at_call 20; with_reducible exact calls_ext (pA.out _)) | (go_at_call 20; with_reducible exact calls_ext (pP.out _)) | (go_at_call 25; exact calls_ext (Header.awake _)))))
  refine wpQuiet_nil ?_
  rintro _ ⟨x, rfl⟩
  go_wp2
  go_ret
  exact ⟨rfl, (E4.ext _).below⟩

set_option maxHeartbeats 2000000 in
theorem apart4 (a0 a1 a2 s f o c : Int) (i l : Bool) (x1 : 0 ≤ a0) (x2 : a0 ≤ 4294967295) (y1 : -9223372036854775808 ≤ a1) (y2 : a1 ≤ 9223372036854775807) (z1 : -9223372036854775808 ≤ a2) (z2 : a2 ≤ 9223372036854775807)
    (hs : gotS a0 = s) (hf : gotF a0 = f) (ho : gotO a0 = o) (hc : gotC a0 = c) (hi : gotI a0 = i) (hl : gotL a0 = l) (s0 : 0 ≤ s) (s1 : s < 65536) (f0 : 0 ≤ f) (f1 : f < 4) (o0 : 0 ≤ o) (o1 : o < 4) (c0 : 0 ≤ c) (c1 : c < 4)
    (hj : a1 % 6 = 4) (w : World) :
    Calls Try.prog 6 #[.int .u32 a0, .int .i64 a1, .int .i64 a2] w fun e w' => e = .returned (.bool true) ∧ Below w.heap.size w w' := by
  have hA := put_got a0
  rw [hs, hf, ho, hc, hi, hl] at hA
  have bA := putN_bd s f o c i l
  have bP := putN_bd s f o c (!i) l
  have k1 : gotS (putN s f o c (!i) l) = s := by have h := got_s s f o c (!i) l 0; simp only [Int.zero_mul, Int.add_zero] at h; rw [h]; omega
  have k2 : gotF (putN s f o c (!i) l) = f := by have h := got_f s f o c (!i) l 0; simp only [Int.zero_mul, Int.add_zero] at h; rw [h]; omega
  have k3 : gotO (putN s f o c (!i) l) = o := by have h := got_o s f o c (!i) l 0; simp only [Int.zero_mul, Int.add_zero] at h; rw [h]; omega
  have k4 : gotC (putN s f o c (!i) l) = c := by have h := got_c s f o c (!i) l 0; simp only [Int.zero_mul, Int.add_zero] at h; rw [h]; omega
  have k5 : gotI (putN s f o c (!i) l) = (!i) := by have h := got_i s f o c (!i) l 0; simp only [Int.zero_mul, Int.add_zero] at h; rw [h]
  have k6 : gotL (putN s f o c (!i) l) = l := by have h := got_l s f o c (!i) l 0; simp only [Int.zero_mul, Int.add_zero] at h; rw [h]
  have em : (putN s f o c i l == bits .and .u32 a0 16777215) = true := by rw [u32_and24 a0 x1 (by omega), hA]; simp
  have en : (bits .andNot .u32 (putN s f o c i l) 4194304 == bits .andNot .u32 (putN s f o c (!i) l) 4194304) = true := by
    rw [andNot4 _ (by omega) (by omega), andNot4 _ (by omega) (by omega), beq_iff_eq]
    have q1 := bitN_bd i
    have q2 := bitN_bd l
    have q3 := bitN_bd (!i)
    unfold putN
    omega
  have Hs := Lib.hid hs
  have Hf := Lib.hid hf
  have Ho := Lib.hid ho
  have Hc := Lib.hid hc
  have Hi := Lib.hid hi
  have Hl := Lib.hid hl
  clear hs hf ho hc hi hl hA
  obtain ⟨A, eA⟩ : ∃ A, A = putN s f o c i l := ⟨_, rfl⟩
  obtain ⟨P, eP⟩ : ∃ P, P = putN s f o c (!i) l := ⟨_, rfl⟩
  rw [← eA] at bA em en
  rw [← eP] at bP k1 k2 k3 k4 k5 k6 en
  have HA := Lib.hid eA
  have HP := Lib.hid eP
  clear eA eP
  have ix : ∀ w, (Instr.index 39 (.agg #[.int .u32 65535, .int .u32 196608, .int .u32 786432, .int .u32 3145728, .int .u32 4194304, .int .u32 8388608]) (.int .i64 4)).run Try.prog w = .ok (.int .u32 4194304) w := fun _ => by kernel_rfl
  have pA := Lib.hid (show ∀ W, Calls Try.prog 20 #[.agg #[.int .i64 s, .int .i64 f, .int .i64 o, .int .i64 c, .bool i, .bool l]] W fun e w' => e = .returned (.int .u32 A) ∧ Ext W w' from fun W => by rw [HA.out]; exact put _ _ _ _ _ _ _)
  have pP := Lib.hid (show ∀ W, Calls Try.prog 20 #[.agg #[.int .i64 s, .int .i64 f, .int .i64 o, .int .i64 c, .bool (!i), .bool l]] W fun e w' => e = .returned (.int .u32 P) ∧ Ext W w' from fun W => by rw [HP.out]; exact put _ _ _ _ _ _ _)
  go_enter Try.func6, Try.ntmps6
  go_wp2_with fail
  refine (get _ _ (by omega) (by omega)).mono ?_
  rintro e w1 ⟨rfl, x1⟩
  rw [Hs.out, Hf.out, Ho.out, Hc.out, Hi.out, Hl.out]
  have E1 : Ext w w1 := x1
  clear x1
  go_wp2_with (go_at_call 16; refine (place _ _ _ (by omega) (by omega) (by omega) (by omega)).mono ?_; rintro e w' ⟨rfl, rfl⟩)
  refine (put _ _ _ _ _ _ _).mono ?_
  rintro e w2 ⟨rfl, x2⟩
  rw [← HP.out]
  have B1 := ((Blk.new w1 31 #[.int .i64 s, .int .i64 f, .int .i64 o, .int .i64 c, .bool i, .bool l]).alloc (.cells #[.int .i64 s, .int .i64 f, .int .i64 o, .int .i64 c, .bool (!i), .bool l] 31)).ext x2
  have B2 := (Blk.new (w1.alloc (.cells #[.int .i64 s, .int .i64 f, .int .i64 o, .int .i64 c, .bool i, .bool l] 31)) 31 #[.int .i64 s, .int .i64 f, .int .i64 o, .int .i64 c, .bool (!i), .bool l]).ext x2
  rw [World.size_alloc] at B2
  have E2 : Ext w w2 := ((E1.alloc _).alloc _).trans x2
  clear x2 E1
  go_wp2_with fail
  refine (get _ _ (by omega) (by omega)).mono ?_
  rintro e w3 ⟨rfl, x3⟩
  rw [k1, k2, k3, k4, k5, k6]
  go_wp2_with (go_at_call 16; refine (place _ _ _ (by omega) (by omega) (by omega) (by omega)).mono ?_; rintro e w' ⟨rfl, rfl⟩)
  refine wp_name fun W4 hW4 => ?_
  replace B1 := (B1.ext x3).alloc' hW4
  replace B2 := (B2.ext x3).alloc' hW4
  have B3 := Blk.new' hW4
  have E4 := (E2.trans x3).alloc' hW4
  obtain ⟨q1, q2, q3⟩ := B1.rules
  obtain ⟨r1, r2, r3⟩ := B2.rules
  obtain ⟨t1, t2, t3⟩ := B3.rules
  clear hW4 x3 E2 k1 k2 k3 k4 k5 k6 ix hj
  refine wp_region_ext (by kernel_rfl) (by kernel_rfl) ?_
  repeat (go_big_quiet_step ((first | (go_at_call 20; with_reducible exact calls_ext (pA.out _)) | (go_at_call 20; with_reducible exact calls_ext (pP.out _)) | (go_at_call 25; exact calls_ext (Header.awake _)))))
  refine wpQuiet_nil ?_
  rintro _ ⟨x, rfl⟩
  go_wp2
  go_ret
  exact ⟨rfl, (E4.ext _).below⟩

set_option maxHeartbeats 2000000 in
theorem apart5 (a0 a1 a2 s f o c : Int) (i l : Bool) (x1 : 0 ≤ a0) (x2 : a0 ≤ 4294967295) (y1 : -9223372036854775808 ≤ a1) (y2 : a1 ≤ 9223372036854775807) (z1 : -9223372036854775808 ≤ a2) (z2 : a2 ≤ 9223372036854775807)
    (hs : gotS a0 = s) (hf : gotF a0 = f) (ho : gotO a0 = o) (hc : gotC a0 = c) (hi : gotI a0 = i) (hl : gotL a0 = l) (s0 : 0 ≤ s) (s1 : s < 65536) (f0 : 0 ≤ f) (f1 : f < 4) (o0 : 0 ≤ o) (o1 : o < 4) (c0 : 0 ≤ c) (c1 : c < 4)
    (hj : a1 % 6 = 5) (w : World) :
    Calls Try.prog 6 #[.int .u32 a0, .int .i64 a1, .int .i64 a2] w fun e w' => e = .returned (.bool true) ∧ Below w.heap.size w w' := by
  have hA := put_got a0
  rw [hs, hf, ho, hc, hi, hl] at hA
  have bA := putN_bd s f o c i l
  have bP := putN_bd s f o c i (!l)
  have k1 : gotS (putN s f o c i (!l)) = s := by have h := got_s s f o c i (!l) 0; simp only [Int.zero_mul, Int.add_zero] at h; rw [h]; omega
  have k2 : gotF (putN s f o c i (!l)) = f := by have h := got_f s f o c i (!l) 0; simp only [Int.zero_mul, Int.add_zero] at h; rw [h]; omega
  have k3 : gotO (putN s f o c i (!l)) = o := by have h := got_o s f o c i (!l) 0; simp only [Int.zero_mul, Int.add_zero] at h; rw [h]; omega
  have k4 : gotC (putN s f o c i (!l)) = c := by have h := got_c s f o c i (!l) 0; simp only [Int.zero_mul, Int.add_zero] at h; rw [h]; omega
  have k5 : gotI (putN s f o c i (!l)) = i := by have h := got_i s f o c i (!l) 0; simp only [Int.zero_mul, Int.add_zero] at h; rw [h]
  have k6 : gotL (putN s f o c i (!l)) = (!l) := by have h := got_l s f o c i (!l) 0; simp only [Int.zero_mul, Int.add_zero] at h; rw [h]
  have em : (putN s f o c i l == bits .and .u32 a0 16777215) = true := by rw [u32_and24 a0 x1 (by omega), hA]; simp
  have en : (bits .andNot .u32 (putN s f o c i l) 8388608 == bits .andNot .u32 (putN s f o c i (!l)) 8388608) = true := by
    rw [andNot5 _ (by omega) (by omega), andNot5 _ (by omega) (by omega), beq_iff_eq]
    have q1 := bitN_bd i
    have q2 := bitN_bd l
    have q3 := bitN_bd (!l)
    unfold putN
    omega
  have Hs := Lib.hid hs
  have Hf := Lib.hid hf
  have Ho := Lib.hid ho
  have Hc := Lib.hid hc
  have Hi := Lib.hid hi
  have Hl := Lib.hid hl
  clear hs hf ho hc hi hl hA
  obtain ⟨A, eA⟩ : ∃ A, A = putN s f o c i l := ⟨_, rfl⟩
  obtain ⟨P, eP⟩ : ∃ P, P = putN s f o c i (!l) := ⟨_, rfl⟩
  rw [← eA] at bA em en
  rw [← eP] at bP k1 k2 k3 k4 k5 k6 en
  have HA := Lib.hid eA
  have HP := Lib.hid eP
  clear eA eP
  have ix : ∀ w, (Instr.index 39 (.agg #[.int .u32 65535, .int .u32 196608, .int .u32 786432, .int .u32 3145728, .int .u32 4194304, .int .u32 8388608]) (.int .i64 5)).run Try.prog w = .ok (.int .u32 8388608) w := fun _ => by kernel_rfl
  have pA := Lib.hid (show ∀ W, Calls Try.prog 20 #[.agg #[.int .i64 s, .int .i64 f, .int .i64 o, .int .i64 c, .bool i, .bool l]] W fun e w' => e = .returned (.int .u32 A) ∧ Ext W w' from fun W => by rw [HA.out]; exact put _ _ _ _ _ _ _)
  have pP := Lib.hid (show ∀ W, Calls Try.prog 20 #[.agg #[.int .i64 s, .int .i64 f, .int .i64 o, .int .i64 c, .bool i, .bool (!l)]] W fun e w' => e = .returned (.int .u32 P) ∧ Ext W w' from fun W => by rw [HP.out]; exact put _ _ _ _ _ _ _)
  go_enter Try.func6, Try.ntmps6
  go_wp2_with fail
  refine (get _ _ (by omega) (by omega)).mono ?_
  rintro e w1 ⟨rfl, x1⟩
  rw [Hs.out, Hf.out, Ho.out, Hc.out, Hi.out, Hl.out]
  have E1 : Ext w w1 := x1
  clear x1
  go_wp2_with (go_at_call 16; refine (place _ _ _ (by omega) (by omega) (by omega) (by omega)).mono ?_; rintro e w' ⟨rfl, rfl⟩)
  refine (put _ _ _ _ _ _ _).mono ?_
  rintro e w2 ⟨rfl, x2⟩
  rw [← HP.out]
  have B1 := ((Blk.new w1 31 #[.int .i64 s, .int .i64 f, .int .i64 o, .int .i64 c, .bool i, .bool l]).alloc (.cells #[.int .i64 s, .int .i64 f, .int .i64 o, .int .i64 c, .bool i, .bool (!l)] 31)).ext x2
  have B2 := (Blk.new (w1.alloc (.cells #[.int .i64 s, .int .i64 f, .int .i64 o, .int .i64 c, .bool i, .bool l] 31)) 31 #[.int .i64 s, .int .i64 f, .int .i64 o, .int .i64 c, .bool i, .bool (!l)]).ext x2
  rw [World.size_alloc] at B2
  have E2 : Ext w w2 := ((E1.alloc _).alloc _).trans x2
  clear x2 E1
  go_wp2_with fail
  refine (get _ _ (by omega) (by omega)).mono ?_
  rintro e w3 ⟨rfl, x3⟩
  rw [k1, k2, k3, k4, k5, k6]
  go_wp2_with (go_at_call 16; refine (place _ _ _ (by omega) (by omega) (by omega) (by omega)).mono ?_; rintro e w' ⟨rfl, rfl⟩)
  refine wp_name fun W4 hW4 => ?_
  replace B1 := (B1.ext x3).alloc' hW4
  replace B2 := (B2.ext x3).alloc' hW4
  have B3 := Blk.new' hW4
  have E4 := (E2.trans x3).alloc' hW4
  obtain ⟨q1, q2, q3⟩ := B1.rules
  obtain ⟨r1, r2, r3⟩ := B2.rules
  obtain ⟨t1, t2, t3⟩ := B3.rules
  clear hW4 x3 E2 k1 k2 k3 k4 k5 k6 ix hj
  refine wp_region_ext (by kernel_rfl) (by kernel_rfl) ?_
  repeat (go_big_quiet_step ((first | (go_at_call 20; with_reducible exact calls_ext (pA.out _)) | (go_at_call 20; with_reducible exact calls_ext (pP.out _)) | (go_at_call 25; exact calls_ext (Header.awake _)))))
  refine wpQuiet_nil ?_
  rintro _ ⟨x, rfl⟩
  go_wp2
  go_ret
  exact ⟨rfl, (E4.ext _).below⟩

theorem got_bd (v : Int) : 0 ≤ gotS v ∧ gotS v < 65536 ∧ 0 ≤ gotF v ∧ gotF v < 4 ∧ 0 ≤ gotO v ∧ gotO v < 4 ∧ 0 ≤ gotC v ∧ gotC v < 4 := by
  unfold gotS gotF gotO gotC; omega
theorem headerApart (a0 a1 a2 : Int) (w0 : (Lit.int .u32 a0).wf = true) (w1 : (Lit.int .i64 a1).wf = true) (w2 : (Lit.int .i64 a2).wf = true) (w : World) :
    Calls Try.prog 6 #[.int .u32 a0, .int .i64 a1, .int .i64 a2] w fun e w' => e = .returned (.bool true) ∧ Below w.heap.size w w' := by
  obtain ⟨x1, x2⟩ := bounds_u32 w0
  obtain ⟨y1, y2⟩ := bounds_i64 w1
  obtain ⟨z1, z2⟩ := bounds_i64 w2
  obtain ⟨s0, s1, f0, f1, o0, o1, c0, c1⟩ := got_bd a0
  have hj : a1 % 6 = 0 ∨ a1 % 6 = 1 ∨ a1 % 6 = 2 ∨ a1 % 6 = 3 ∨ a1 % 6 = 4 ∨ a1 % 6 = 5 := by omega
  rcases hj with hj | hj | hj | hj | hj | hj
  · exact apart0 a0 a1 a2 _ _ _ _ _ _ x1 x2 y1 y2 z1 z2 rfl rfl rfl rfl rfl rfl s0 s1 f0 f1 o0 o1 c0 c1 hj w
  · exact apart1 a0 a1 a2 _ _ _ _ _ _ x1 x2 y1 y2 z1 z2 rfl rfl rfl rfl rfl rfl s0 s1 f0 f1 o0 o1 c0 c1 hj w
  · exact apart2 a0 a1 a2 _ _ _ _ _ _ x1 x2 y1 y2 z1 z2 rfl rfl rfl rfl rfl rfl s0 s1 f0 f1 o0 o1 c0 c1 hj w
  · exact apart3 a0 a1 a2 _ _ _ _ _ _ x1 x2 y1 y2 z1 z2 rfl rfl rfl rfl rfl rfl s0 s1 f0 f1 o0 o1 c0 c1 hj w
  · exact apart4 a0 a1 a2 _ _ _ _ _ _ x1 x2 y1 y2 z1 z2 rfl rfl rfl rfl rfl rfl s0 s1 f0 f1 o0 o1 c0 c1 hj w
  · exact apart5 a0 a1 a2 _ _ _ _ _ _ x1 x2 y1 y2 z1 z2 rfl rfl rfl rfl rfl rfl s0 s1 f0 f1 o0 o1 c0 c1 hj w

/-- the first field that differs: how the tests of two heads come out -/
def FirstDiff (x y : Int) : Prop :=
  ((gotS x == gotS y) = false ∧ (x == y) = false) ∨
  ((gotS x == gotS y) = true ∧ (gotF x == gotF y) = false ∧ (x == y) = false) ∨
  ((gotS x == gotS y) = true ∧ (gotF x == gotF y) = true ∧ (gotO x == gotO y) = false ∧ (x == y) = false) ∨
  ((gotS x == gotS y) = true ∧ (gotF x == gotF y) = true ∧ (gotO x == gotO y) = true ∧ (gotC x == gotC y) = false ∧ (x == y) = false) ∨
  ((gotS x == gotS y) = true ∧ (gotF x == gotF y) = true ∧ (gotO x == gotO y) = true ∧ (gotC x == gotC y) = true ∧ (gotI x == gotI y) = false ∧ (x == y) = false) ∨
  ((gotS x == gotS y) = true ∧ (gotF x == gotF y) = true ∧ (gotO x == gotO y) = true ∧ (gotC x == gotC y) = true ∧ (gotI x == gotI y) = true ∧ (gotL x == gotL y) = false ∧ (x == y) = false) ∨
  ((gotS x == gotS y) = true ∧ (gotF x == gotF y) = true ∧ (gotO x == gotO y) = true ∧ (gotC x == gotC y) = true ∧ (gotI x == gotI y) = true ∧ (gotL x == gotL y) = true ∧ (x == y) = true)
theorem firstDiff (x y : Int) (hx : 0 ≤ x ∧ x < 16777216) (hy : 0 ≤ y ∧ y < 16777216) : FirstDiff x y := by
  have px := put_got x
  have py := put_got y
  rw [Int.emod_eq_of_lt hx.1 hx.2] at px
  rw [Int.emod_eq_of_lt hy.1 hy.2] at py
  have ne : ∀ {α : Type} [BEq α] [LawfulBEq α] (f : Int → α), (f x == f y) = false → (x == y) = false := fun f h => by
    rw [beq_eq_false_iff_ne] at *
    rintro rfl; exact h rfl
  unfold FirstDiff
  cases h1 : (gotS x == gotS y)
  · simp [ne gotS h1]
  cases h2 : (gotF x == gotF y)
  · simp [ne gotF h2]
  cases h3 : (gotO x == gotO y)
  · simp [ne gotO h3]
  cases h4 : (gotC x == gotC y)
  · simp [ne gotC h4]
  cases h5 : (gotI x == gotI y)
  · simp [ne gotI h5]
  cases h6 : (gotL x == gotL y)
  · simp [ne gotL h6]
  · have e : x = y := by
      rw [← px, ← py, eq_of_beq h1, eq_of_beq h2, eq_of_beq h3, eq_of_beq h4, eq_of_beq h5, eq_of_beq h6]
    simp [e]

set_option maxHeartbeats 8000000 in
theorem counts (a0 a1 x y : Int) (w : World) (ex : bits .and .u32 a0 16777215 = x) (ey : bits .and .u32 a1 16777215 = y) (x0 : 0 ≤ x) (x1 : x < 16777216) (y0 : 0 ≤ y) (y1 : y < 16777216) :
    Calls Try.prog 7 #[.int .u32 a0, .int .u32 a1] w fun e w' => e = .returned (.bool true) ∧ Below w.heap.size w w' := by
  have hd := firstDiff x y ⟨x0, x1⟩ ⟨y0, y1⟩
  have px := put_got x
  rw [Int.emod_eq_of_lt x0 x1] at px
  obtain ⟨s0, s1, f0, f1, o0, o1, c0, c1⟩ := got_bd x
  have pm : gotS x % 65536 = gotS x := by omega
  rcases hd with ⟨d1, dx⟩ | ⟨d1, d2, dx⟩ | ⟨d1, d2, d3, dx⟩ | ⟨d1, d2, d3, d4, dx⟩ | ⟨d1, d2, d3, d4, d5, dx⟩ | ⟨d1, d2, d3, d4, d5, d6, dx⟩ | ⟨d1, d2, d3, d4, d5, d6, dx⟩
  all_goals
    go_enter Try.func7, Try.ntmps7
    go_wp2_with fail
    refine (get _ _ (by omega) (by omega)).mono ?_
    rintro e w1 ⟨rfl, x1⟩
    go_wp2_with fail
    refine (get _ _ (by omega) (by omega)).mono ?_
    rintro e w2 ⟨rfl, x2⟩
    go_wp2_with fail
    refine wp_name fun W4 hW4 => ?_
    have B1 : Blk W4 w2.heap.size 31 #[.int .i64 (gotS x), .int .i64 (gotF x), .int .i64 (gotO x), .int .i64 (gotC x), .bool (gotI x), .bool (gotL x)] := by rw [hW4]; exact (Blk.new _ _ _).alloc _
    have E4 : Ext w W4 := by rw [hW4]; exact ((x1.trans x2).alloc _).alloc _
    obtain ⟨q1, q2, q3⟩ := B1.rules
    clear hW4 x1 x2
    refine wp_region_ext (by kernel_rfl) (by kernel_rfl) ?_
    repeat (go_big_quiet_step ((first | (go_at_call 20; exact calls_ext (put _ _ _ _ _ _ _)) | (go_at_call 16; exact calls_same (place _ _ _ (by omega) (by omega) (by omega) (by omega))) | (go_at_call 25; exact calls_ext (Header.awake _)))))
    refine wpQuiet_nil ?_
    rintro _ ⟨x, rfl⟩
    go_wp2
    go_ret
    exact ⟨rfl, (E4.ext _).below⟩
theorem headerCounts (a0 a1 : Int) (w0 : (Lit.int .u32 a0).wf = true) (w1 : (Lit.int .u32 a1).wf = true) (w : World) :
    Calls Try.prog 7 #[.int .u32 a0, .int .u32 a1] w fun e w' => e = .returned (.bool true) ∧ Below w.heap.size w w' := by
  obtain ⟨x1, x2⟩ := bounds_u32 w0
  obtain ⟨y1, y2⟩ := bounds_u32 w1
  exact counts a0 a1 (a0 % 16777216) (a1 % 16777216) w (u32_and24 a0 x1 (by omega)) (u32_and24 a1 y1 (by omega)) (by omega) (by omega) (by omega) (by omega)
end Go.Proofs.Ytgfgmhfggbfeeaa.HeaderLaws
