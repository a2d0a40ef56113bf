/-
  Contracts of package heap (chapter 5): Class, Mark; what SetClass, SetMark refuse; Field, Byte.
-/
import Derived.Test.YtjpalcejmloocaaHqSet
import Derived.Test.YtjpalcejmloocaaHqByte
import Derived.BigRegion
import Derived.Deep.DeepCutAuto
namespace Go.Proofs.Ytjpalcejmloocaa.Heap
open Go.RowKit Go.Proofs.Ytjpalcejmloocaa.Plain Go.Proofs.Ytjpalcejmloocaa.Free
set_option linter.unusedVariables false
section
variable {w : World} {h base : Nat} {o : O3} {S : List Int} {L : List Run} {Bg : List Bool}
set_option maxHeartbeats 1000000 in
theorem class_ (H : Heap w h base o S L Bg) (at_ : Int) : Calls Try.prog 40 #[.pointer (some ⟨h, 0, none⟩), .int .i64 at_] w fun e w' => e = .returned (.int .i64 (classI S Bg at_)) ∧ Ext w w' := by
  have E : Hid (classI S Bg at_ = if hasB Bg at_ then refOfW (Store.getL S at_) else 0) := rfl
  have hhas := has H at_
  cases hb : hasB Bg at_ with
  | false =>
    rw [hb] at hhas E
    have HH := Lib.hid hhas
    clear hhas hb H
    go_enter Try.func40, Try.ntmps40
    go_wp2_with fail
    refine HH.out.mono ?_
    rintro e w1 ⟨rfl, rfl⟩
    go_wp2_with fail
    go_ret
    exact ⟨ret_int (by rw [E.out]; rfl), Ext.refl _⟩
  | true =>
    obtain ⟨b1, b2, b3⟩ := H.bd hb
    rw [hb] at hhas E
    have HH := Lib.hid hhas
    obtain ⟨s, sb, f, bb, v, rfl, H⟩ := H
    obtain ⟨r1, r2, r3⟩ := H.blk.rules
    obtain ⟨g1, g2⟩ := getL_bd H.wd at_
    have HG := Lib.hid (Store.get_sto H.sto at_)
    generalize Store.getL S at_ = x at *
    clear hhas hb H
    go_enter Try.func40, Try.ntmps40
    go_wp2_with fail
    refine HH.out.mono ?_
    rintro e w1 ⟨rfl, rfl⟩
    go_wp2_with fail
    try rw [show at_ - 1 + 1 = at_ from by omega]
    refine HG.out.mono ?_
    rintro e w2 ⟨rfl, rfl⟩
    go_wp2_with fail
    refine (Word.refof _ _ g1 g2).mono ?_
    rintro e w3 ⟨rfl, rfl⟩
    go_wp2_with fail
    go_ret
    exact ⟨ret_int (by rw [E.out]; rfl), Ext.refl _⟩
set_option maxHeartbeats 1000000 in
theorem mark_ (H : Heap w h base o S L Bg) (at_ : Int) : Calls Try.prog 35 #[.pointer (some ⟨h, 0, none⟩), .int .i64 at_] w fun e w' => e = .returned (.tuple #[.int .i64 (markC S Bg at_), .bool (markF S Bg at_)]) ∧ Ext w w' := by
  have E : Hid (markC S Bg at_ = if hasB Bg at_ then gotC (Store.getL S (at_ - 1)) else 0) := rfl
  have E2 : Hid (markF S Bg at_ = (hasB Bg at_ && gotI (Store.getL S (at_ - 1)))) := rfl
  have hhas := has H at_
  cases hb : hasB Bg at_ with
  | false =>
    rw [hb] at hhas E E2
    have HH := Lib.hid hhas
    clear hhas hb H
    go_enter Try.func35, Try.ntmps35
    go_wp2_with fail
    refine HH.out.mono ?_
    rintro e w1 ⟨rfl, rfl⟩
    go_wp2_with fail
    go_ret2
    exact ⟨by rw [E.out, E2.out]; rfl, Ext.refl _⟩
  | true =>
    obtain ⟨b1, b2, b3⟩ := H.bd hb
    rw [hb] at hhas E E2
    have HH := Lib.hid hhas
    have hhead := Lib.hid (head H at_ (by omega) (by omega))
    generalize Store.getL S (at_ - 1) = x at *
    unfold headV at hhead
    clear hhas hb H
    go_enter Try.func35, Try.ntmps35
    go_wp2_with fail
    refine HH.out.mono ?_
    rintro e w1 ⟨rfl, rfl⟩
    go_wp2_with fail
    refine hhead.out.mono ?_
    rintro e w2 ⟨rfl, x2⟩
    have X2 := Lib.hid x2
    clear x2
    go_wp2_with fail
    go_region
    go_wp2_with fail
    go_ret2
    exact ⟨by rw [E.out, E2.out]; rfl, (X2.out.alloc _).drew⟩
set_option maxHeartbeats 1000000 in
theorem setclass_no (H : Heap w h base o S L Bg) (at_ c : Int) (hb : hasB Bg at_ = false ∨ c < 0 ∨ 65536 < c) :
    Calls Try.prog 17 #[.pointer (some ⟨h, 0, none⟩), .int .i64 at_, .int .i64 c] w fun e w' => e = .returned (.bool false) ∧ Ext w w' := by
  have HS := Lib.hid (fun W (x : Ext w W) => has (H.ext x) at_)
  obtain ⟨d, hd⟩ : ∃ d, hasB Bg at_ = d := ⟨_, rfl⟩
  rw [hd] at HS hb
  clear hd H
  cases d with
  | false =>
    clear hb
    go_enter Try.func17, Try.ntmps17
    go_wp2_with fail
    refine wp_region_ext (by kernel_rfl) (by kernel_rfl) ?_
    repeat (go_big_quiet_step ((go_at_call 37; exact calls_same (HS.out _ ⟨_, rfl⟩))))
    refine wpQuiet_nil ?_
    rintro W3 ⟨xx, rfl⟩
    go_wp2_with fail
    go_ret
    exact ⟨rfl, ⟨_, rfl⟩⟩
  | true =>
    by_cases h1 : c < 0
    · clear hb
      have d0 : decide (c ≥ 0) = false := by simpa using h1
      go_enter Try.func17, Try.ntmps17
      go_wp2_with fail
      refine wp_region_ext (by kernel_rfl) (by kernel_rfl) ?_
      repeat (go_big_quiet_step ((go_at_call 37; exact calls_same (HS.out _ ⟨_, rfl⟩))))
      refine wpQuiet_nil ?_
      rintro W3 ⟨xx, rfl⟩
      go_wp2_with fail
      go_ret
      exact ⟨rfl, ⟨_, rfl⟩⟩
    · have h2 : 65536 < c := by
        rcases hb with hb | hb | hb
        · cases hb
        · omega
        · exact hb
      clear hb
      have d0 : decide (c ≥ 0) = true := by simp; omega
      have d1 : decide (c ≤ 65536) = false := by simp; omega
      go_enter Try.func17, Try.ntmps17
      go_wp2_with fail
      refine wp_region_ext (by kernel_rfl) (by kernel_rfl) ?_
      repeat (go_big_quiet_step ((go_at_call 37; exact calls_same (HS.out _ ⟨_, rfl⟩))))
      refine wpQuiet_nil ?_
      rintro W3 ⟨xx, rfl⟩
      go_wp2_with fail
      go_ret
      exact ⟨rfl, ⟨_, rfl⟩⟩
set_option maxHeartbeats 1000000 in
theorem setmark_bad (H : Heap w h base o S L Bg) (at_ c : Int) (fi : Bool) (hc : c < 0 ∨ 2 < c) :
    Calls Try.prog 19 #[.pointer (some ⟨h, 0, none⟩), .int .i64 at_, .int .i64 c, .bool fi] w fun e w' => e = .returned (.bool false) ∧ w = w' := by
  cases hb : hasB Bg at_ with
  | false => exact setmark_no H at_ c fi hb
  | true =>
    have hhas := has H at_
    rw [hb] at hhas
    have HH := Lib.hid hhas
    clear hhas H hb
    by_cases h1 : c < 0
    · clear hc
      go_enter Try.func19, Try.ntmps19
      go_wp2_with fail
      refine HH.out.mono ?_
      rintro e w1 ⟨rfl, rfl⟩
      go_wp2_with fail
      go_ret
      exact ⟨rfl, rfl⟩
    · have h2 : 2 < c := by omega
      clear hc
      go_enter Try.func19, Try.ntmps19
      go_wp2_with fail
      refine HH.out.mono ?_
      rintro e w1 ⟨rfl, rfl⟩
      go_wp2_with fail
      go_ret
      exact ⟨rfl, rfl⟩
end
end Go.Proofs.Ytjpalcejmloocaa.Heap
