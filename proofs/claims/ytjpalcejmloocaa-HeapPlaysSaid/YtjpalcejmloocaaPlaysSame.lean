/-
  colloquylaw05.same: where both answer alike.
-/
import Derived.Test.YtjpalcejmloocaaRefHeap3
import Derived.Test.YtjpalcejmloocaaHqMark
import Derived.Test.YtjpalcejmloocaaLexFast
import Derived.BigRegion
import Derived.Deep.DeepCutAuto
namespace Go.Proofs.Ytjpalcejmloocaa.RefHeap
open Go.RowKit Go.Proofs.Ytjpalcejmloocaa.Plain Go.Proofs.Ytjpalcejmloocaa.Free Go.Proofs.Ytjpalcejmloocaa.Heap Go.Proofs.Ytjpalcejmloocaa.RefFree
set_option linter.unusedVariables false
/-- what both heaps answer of a place, and of a field's number -/
structure Twin (w : World) (h q f ib n : Nat) (at_ i : Int) (G : GO) (vL : Value) (us sz fd by_ nx : Int) : Prop where
  got : GotO w q at_ G
  mark : ∀ W, Ext w W → Calls Try.prog 35 #[.pointer (some ⟨h, 0, none⟩), .int .i64 at_] W fun e w' => e = .returned (.tuple #[.int .i64 G.a7, .bool G.a8]) ∧ Ext W w'
  words : ∀ W, Ext w W → Calls Try.prog 36 #[.pointer (some ⟨h, 0, none⟩)] W fun e w' => e = .returned (.tuple #[.int .i64 ((n : Int) - us), .int .i64 (n : Int)]) ∧ Ext W w'
  has : ∀ W, Ext w W → Calls Try.prog 37 #[.pointer (some ⟨h, 0, none⟩), .int .i64 at_] W fun e w' => e = .returned (.bool G.ok) ∧ Ext W w'
  size : ∀ W, Ext w W → Calls Try.prog 21 #[.pointer (some ⟨h, 0, none⟩), .int .i64 at_] W fun e w' => e = .returned (.int .i64 sz) ∧ Ext W w'
  rsize : ∀ W, Ext w W → Calls Try.prog 38 #[.pointer (some ⟨q, 0, none⟩), .int .i64 at_] W fun e w' => e = .returned (.int .i64 sz) ∧ Ext W w'
  fmt : ∀ W, Ext w W → Calls Try.prog 39 #[.pointer (some ⟨h, 0, none⟩), .int .i64 at_] W fun e w' => e = .returned (.int .i64 G.a2) ∧ Ext W w'
  cls : ∀ W, Ext w W → Calls Try.prog 40 #[.pointer (some ⟨h, 0, none⟩), .int .i64 at_] W fun e w' => e = .returned (.int .i64 G.a3) ∧ Ext W w'
  hash : ∀ W, Ext w W → Calls Try.prog 41 #[.pointer (some ⟨h, 0, none⟩), .int .i64 at_] W fun e w' => e = .returned (.int .i64 G.a4) ∧ Ext W w'
  fld : ∀ W, Ext w W → Calls Try.prog 42 #[.pointer (some ⟨h, 0, none⟩), .int .i64 at_, .int .i64 i] W fun e w' => e = .returned (.int .u32 fd) ∧ Ext W w'
  rfld : ∀ W, Ext w W → Calls Try.prog 43 #[.pointer (some ⟨q, 0, none⟩), .int .i64 at_, .int .i64 i] W fun e w' => e = .returned (.int .u32 fd) ∧ Ext W w'
  byt : ∀ W, Ext w W → Calls Try.prog 44 #[.pointer (some ⟨h, 0, none⟩), .int .i64 at_, .int .i64 i] W fun e w' => e = .returned (.int .i64 by_) ∧ Ext W w'
  rbyt : ∀ W, Ext w W → Calls Try.prog 45 #[.pointer (some ⟨q, 0, none⟩), .int .i64 at_, .int .i64 i] W fun e w' => e = .returned (.int .i64 by_) ∧ Ext W w'
  nxt : ∀ W, Ext w W → Calls Try.prog 22 #[.pointer (some ⟨h, 0, none⟩), .int .i64 at_] W fun e w' => e = .returned (.int .i64 nx) ∧ Ext W w'
  rnxt : ∀ W, Ext w W → Calls Try.prog 46 #[.pointer (some ⟨q, 0, none⟩), .int .i64 at_] W fun e w' => e = .returned (.int .i64 nx) ∧ Ext W w'
  qb : Blk w q 43 #[vL, .pointer (some ⟨f, 0, none⟩)]
  fb : Blk w f 71 #[.slice (some ⟨ib, 0, none⟩) n n]
  rw : ∀ W, Ext w W → Calls Try.prog 47 #[.pointer (some ⟨f, 0, none⟩)] W fun e w' => e = .returned (.int .i64 us) ∧ Ext W w'
  b1 : 0 ≤ us ∧ us ≤ n ∧ n ≤ 65536
  fs : ∀ k, k < G.lF → ∃ g x, G.AF = some ⟨g, 0, none⟩ ∧ g < w.heap.size ∧ w.cell? ⟨g, k, none⟩ = some (.int .u32 x) ∧ ∀ W, Ext w W → Calls Try.prog 42 #[.pointer (some ⟨h, 0, none⟩), .int .i64 at_, .int .i64 (k : Int)] W fun e w' => e = .returned (.int .u32 x) ∧ Ext W w'
  bs : ∀ k, k < G.lB → ∃ g x, G.AB = some ⟨g, 0, none⟩ ∧ g < w.heap.size ∧ w.cell? ⟨g, k, none⟩ = some (.int .u8 x) ∧ 0 ≤ x ∧ x < 256 ∧ ∀ W, Ext w W → Calls Try.prog 44 #[.pointer (some ⟨h, 0, none⟩), .int .i64 at_, .int .i64 (k : Int)] W fun e w' => e = .returned (.int .i64 x) ∧ Ext W w'
  few : G.lF ≤ 1000 ∧ G.lB ≤ 1000
section
variable {w : World} {h q f ib n : Nat} {at_ i : Int} {G : GO} {vL : Value} {us sz fd by_ nx : Int}
set_option maxRecDepth 100000 in
set_option maxHeartbeats 8000000 in
theorem same_ok (T : Twin w h q f ib n at_ i G vL us sz fd by_ nx) : Calls Try.prog 10 #[.pointer (some ⟨h, 0, none⟩), .pointer (some ⟨q, 0, none⟩), .int .i64 at_, .int .i64 i] w fun e w' => e = .returned (.bool true) ∧ Ext w w' := by
  have TH := Lib.hid T
  obtain ⟨a0, a1, a2, a3, a4, a7, a8, AF, lF, cF, AB, lB, cB, ok⟩ := G
  have g1 := T.got
  unfold GotO at g1
  simp only at g1
  have G1 := Lib.hid g1
  have b1 := T.b1
  have few := T.few
  simp only at few
  obtain ⟨k1, k2, k3⟩ := b1
  obtain ⟨k4, k5⟩ := few
  clear T g1
  go_enter Try.func10, Try.ntmps10
  go_wp2_with fail
  refine (G1.out _ (Ext.refl _)).mono ?_
  rintro e w1 ⟨rfl, x1⟩
  go_upto_region 2 with (fail)
  refine wp_name (fun w2 hW => ?_)
  have B2 := Lib.hid (Blk.new' hW)
  have X2 := Lib.hid (x1.alloc' hW)
  clear hW x1 G1
  generalize w1.heap.size = bo at *
  go_wp2_with fail
  refine (TH.out.mark _ X2.out).mono ?_
  rintro e w3 ⟨rfl, x3⟩
  have X3 := Lib.hid (X2.out.trans x3)
  have B3 := Lib.hid (B2.out.ext x3)
  clear x3 B2 X2
  simp only
  go_wp2_with fail
  refine (TH.out.words _ X3.out).mono ?_
  rintro e w4 ⟨rfl, x4⟩
  have X4 := Lib.hid (X3.out.trans x4)
  have B4 := Lib.hid (B3.out.ext x4)
  clear x4 B3 X3
  obtain ⟨r1, r2, r3⟩ := B4.out.rules
  obtain ⟨s1, s2, s3⟩ := (TH.out.qb.ext X4.out).rules
  obtain ⟨t1, t2, t3⟩ := (TH.out.fb.ext X4.out).rules
  have n1 : (ok != ok) = false := by cases ok <;> rfl
  have n2 : (a8 != a8) = false := by cases a8 <;> rfl
  go_wp2_with fail
  refine wp_region_ext (by kernel_rfl) (lex_fast _ (by kernel_rfl) (by kernel_rfl)) ?_
  simp only [List.append]
  repeat (go_big_quiet_step ((first | (go_at_call 37; exact calls_ext (TH.out.has _ (X4.out.trans ⟨_, rfl⟩))) | (go_at_call 21; exact calls_ext (TH.out.size _ (X4.out.trans ⟨_, rfl⟩))) | (go_at_call 38; exact calls_ext (TH.out.rsize _ (X4.out.trans ⟨_, rfl⟩))) | (go_at_call 39; exact calls_ext (TH.out.fmt _ (X4.out.trans ⟨_, rfl⟩))) | (go_at_call 40; exact calls_ext (TH.out.cls _ (X4.out.trans ⟨_, rfl⟩))) | (go_at_call 41; exact calls_ext (TH.out.hash _ (X4.out.trans ⟨_, rfl⟩))) | (go_at_call 42; exact calls_ext (TH.out.fld _ (X4.out.trans ⟨_, rfl⟩))) | (go_at_call 43; exact calls_ext (TH.out.rfld _ (X4.out.trans ⟨_, rfl⟩))) | (go_at_call 44; exact calls_ext (TH.out.byt _ (X4.out.trans ⟨_, rfl⟩))) | (go_at_call 45; exact calls_ext (TH.out.rbyt _ (X4.out.trans ⟨_, rfl⟩))) | (go_at_call 22; exact calls_ext (TH.out.nxt _ (X4.out.trans ⟨_, rfl⟩))) | (go_at_call 46; exact calls_ext (TH.out.rnxt _ (X4.out.trans ⟨_, rfl⟩))) | (go_at_call 47; exact calls_ext (TH.out.rw _ (X4.out.trans ⟨_, rfl⟩))))))
  show ∀ w', _ → _
  rintro W3 ⟨xx, rfl⟩
  go_wp2_with fail
  have XW := Lib.hid (X4.out.trans ⟨xx, rfl⟩)
  have BW := Lib.hid (B4.out.ext ⟨xx, rfl⟩)
  clear r1 r2 r3 s1 s2 s3 t1 t2 t3 n1 n2 X4 B4
  generalize ext w4 xx = w5 at *
  have WW : Hid (Ext w5 w5) := Lib.hid (Ext.refl _)
  go_loopw [15] (fun iv wr => ∃ k : Nat, k ≤ lF ∧ iv = .int .i64 k ∧ Ext w5 wr) (fun iv _ => lF - (intOf iv).toNat)
  case atStart => exact ⟨0, Nat.zero_le _, rfl, WW.out⟩
  case round =>
    obtain ⟨k, hk, rfl, x⟩ := hrel
    have XR := Lib.hid x
    by_cases hlt : k < lF
    · obtain ⟨g, x9, hA, hg, hc, FC⟩ := TH.out.fs k hlt
      simp only at hA
      subst hA
      have FH := Lib.hid FC
      obtain ⟨r1, r2, r3⟩ := (BW.out.ext x).rules
      have c2 := ((XW.out.trans x).below.cell (p := ⟨g, k, none⟩) hg).trans hc
      have i1 : (k : Int) < (lF : Int) := by omega
      have g2 := Nat.lt_of_lt_of_le hg (XW.out.trans x).below.size
      clear x hc FC
      go_wp2_with fail
      refine wp_region_ext (by kernel_rfl) (by kernel_rfl) ?_
      repeat (go_big_quiet_step ((go_at_call 42; exact calls_ext (FH.out _ (XW.out.trans (XR.out.trans ⟨_, rfl⟩))))))
      show ∀ w', _ → _
      rintro W6 ⟨yy, rfl⟩
      go_wp2_with fail
      exact ⟨⟨k + 1, by omega, by go_num, XR.out.trans ⟨_, rfl⟩⟩, by simp [intOf]; omega⟩
    · obtain rfl : k = lF := by omega
      obtain ⟨r1, r2, r3⟩ := (BW.out.ext x).rules
      have i1 : (k : Int) ≤ (k : Int) := Int.le_refl _
      have BV := Lib.hid (BW.out.ext x)
      have XV := Lib.hid (XW.out.trans x)
      clear x
      go_wp2_with fail
      clear r1 r2 r3 XR WW XW BW
      rename World => wv
      have WV : Hid (Ext wv wv) := Lib.hid (Ext.refl _)
      go_loopw [16] (fun iv wr => ∃ t : Nat, t ≤ lB ∧ iv = .int .i64 t ∧ Ext wv wr) (fun iv _ => lB - (intOf iv).toNat)
      case atStart => exact ⟨0, Nat.zero_le _, rfl, WV.out⟩
      case round =>
        obtain ⟨t, ht, rfl, x⟩ := hrel
        have XR := Lib.hid x
        by_cases hlt2 : t < lB
        · obtain ⟨g, x9, hA, hg, hc, b1, b2, FC⟩ := TH.out.bs t hlt2
          simp only at hA
          subst hA
          have FH := Lib.hid FC
          obtain ⟨r1, r2, r3⟩ := (BV.out.ext x).rules
          have c2 := ((XV.out.trans x).below.cell (p := ⟨g, t, none⟩) hg).trans hc
          have i2 : (t : Int) < (lB : Int) := by omega
          have hw : IntKind.i64.wrap x9 = x9 := IntWalk.i64_in x9 (by omega)
          have g2 := Nat.lt_of_lt_of_le hg (XV.out.trans x).below.size
          clear x hc FC
          go_wp2_with fail
          refine wp_region_ext (by kernel_rfl) (by kernel_rfl) ?_
          repeat (go_big_quiet_step ((go_at_call 44; exact calls_ext (FH.out _ (XV.out.trans (XR.out.trans ⟨_, rfl⟩))))))
          show ∀ w', _ → _
          rintro W6 ⟨yy, rfl⟩
          go_wp2_with fail
          exact ⟨⟨t + 1, by omega, by go_num, XR.out.trans ⟨_, rfl⟩⟩, by simp [intOf]; omega⟩
        · obtain rfl : t = lB := by omega
          obtain ⟨r1, r2, r3⟩ := (BV.out.ext x).rules
          have i2 : (t : Int) ≤ (t : Int) := Int.le_refl _
          clear x
          go_wp2_with fail
          go_ret
          exact ⟨rfl, XV.out.trans XR.out⟩
end
end Go.Proofs.Ytjpalcejmloocaa.RefHeap
