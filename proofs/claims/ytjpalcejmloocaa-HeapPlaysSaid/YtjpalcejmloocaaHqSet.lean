/-
  Contracts of package heap (chapter 5): Class, Mark, SetClass, SetMark.
-/
import Derived.Test.YtjpalcejmloocaaHqOps
namespace Go.Proofs.Ytjpalcejmloocaa.Heap
open Go.RowKit Go.Proofs.Ytjpalcejmloocaa.Plain Go.Proofs.Ytjpalcejmloocaa.Free
set_option linter.unusedVariables false
section
variable {w : World} {h base : Nat} {o : O3} {S : List Int} {L : List Run} {Bg : List Bool}
def classI (S : List Int) (Bg : List Bool) (at_ : Int) : Int := if hasB Bg at_ then refOfW (Store.getL S at_) else 0
def markC (S : List Int) (Bg : List Bool) (at_ : Int) : Int := if hasB Bg at_ then gotC (Store.getL S (at_ - 1)) else 0
def markF (S : List Int) (Bg : List Bool) (at_ : Int) : Bool := hasB Bg at_ && gotI (Store.getL S (at_ - 1))
set_option maxRecDepth 100000 in
set_option maxHeartbeats 1000000 in
theorem setclass_yes (H : Heap w h base o S L Bg) (at_ c : Int) (k : Nat) (hk : at_ = k) (hkS : k < S.length) (c0 : 0 ≤ c) (c1 : c ≤ 65536) (hb : hasB Bg at_ = true) :
    Calls Try.prog 17 #[.pointer (some ⟨h, 0, none⟩), .int .i64 at_, .int .i64 c] w (Turned w h base o (S.set k (refW c)) L Bg) := by
  have HS : Hid (∀ y, Ext w y → Calls Try.prog 37 #[.pointer (some ⟨h, 0, none⟩), .int .i64 at_] y fun e w' => e = .returned (.bool true) ∧ y = w') := fun y x => by
    have := has (H.ext x) at_
    rwa [hb] at this
  obtain ⟨b1, b2, b3⟩ := H.bd hb
  obtain ⟨s, sb, f, bb, v, rfl, H⟩ := H
  have HH := Lib.hid H
  obtain ⟨r1, r2, r3⟩ := H.blk.rules
  have d0 : decide (c ≥ 0) = true := decide_eq_true c0
  have d1 : decide (c ≤ 65536) = true := decide_eq_true c1
  have HK := Lib.hid (show IntKind.i64.wrap (IntKind.i64.wrap (at_ - 1) + 1) = (k : Int) by rw [IntWalk.i64_in (at_ - 1) (by omega), IntWalk.i64_in _ (by omega)]; omega)
  clear hb H hk
  go_enter Try.func17, Try.ntmps17
  go_wp2_with fail
  go_region_held3 (fun w' => w'.cell? ⟨h, 0, none⟩ = some (.pointer (some ⟨s, 0, none⟩))) (first | exact (HH.out.ext ((Ext.refl _).drew)).blk.cell 0 | exact c5 | exact HH.out.blk.cell 0)
    (first
      | (go_at_call 29; rw [HK.out]; refine (Store.put_y ((HH.out.ext ((Ext.refl _).drew)).sto) k hkS _).mono ?_; rintro e w5 ⟨rfl, s5, k5⟩; have c5 := ((HH.out.ext ((Ext.refl _).drew)).blk.keep k5 ((HH.out.ext ((Ext.refl _).drew)).blk.ne (HH.out.ext ((Ext.refl _).drew)).sto.row (by decide))).cell 0)
      | (go_at_call 37; refine (HS.out _ ((Ext.refl _).drew)).mono ?_; rintro e w1 ⟨rfl, rfl⟩)
      | (go_at_call 31; refine (Word.ref _ _ (by omega) (by omega)).mono ?_; rintro e w1 ⟨rfl, rfl⟩))
  obtain ⟨h2, k3⟩ := (HH.out.ext ((Ext.refl _).drew)).put s5 k5 (List.length_set ..) (wd_set HH.out.wd (refW_bd c))
  have H2 := Lib.hid h2
  have K3 := Lib.hid ((HKp.of_ext ((Ext.refl _).drew)).trans k3)
  clear s5 k5 h2 k3
  go_wp2_with fail
  go_ret
  exact ⟨rfl, ⟨s, sb, f, bb, v, rfl, H2.out⟩, K3.out⟩
theorem head_cells {w : World} {g : Nat} {a b c d e f : Value} (B : Blk w g 64 #[a, b, c, d, e, f]) :
    w.cell? ⟨g, 0, none⟩ = some a ∧ w.cell? ⟨g, 1, none⟩ = some b ∧ w.cell? ⟨g, 2, none⟩ = some c ∧ w.cell? ⟨g, 3, none⟩ = some d ∧ w.cell? ⟨g, 4, none⟩ = some e ∧ w.cell? ⟨g, 5, none⟩ = some f :=
  ⟨B.cell 0, B.cell 1, B.cell 2, B.cell 3, B.cell 4, B.cell 5⟩
set_option maxRecDepth 100000 in
set_option maxHeartbeats 1000000 in
theorem setmark_yes (H : Heap w h base o S L Bg) (at_ c : Int) (fi : Bool) (k : Nat) (hk : at_ = (k : Int) + 1) (hkS : k < S.length) (c0 : 0 ≤ c) (c1 : c ≤ 2) (hb : hasB Bg at_ = true) {x : Int} (hx : Store.getL S (k : Int) = x) :
    Calls Try.prog 19 #[.pointer (some ⟨h, 0, none⟩), .int .i64 at_, .int .i64 c, .bool fi] w (Turned w h base o (S.set k (putN (gotS x) (gotF x) (gotO x) c fi (gotL x))) L Bg) := by
  have hhas := has H at_
  rw [hb] at hhas
  have HS := Lib.hid hhas
  obtain ⟨b1, b2, b3⟩ := H.bd hb
  have hd := head H at_ (by omega) (by omega)
  rw [show at_ - 1 = (k : Int) by omega, hx] at hd
  have HD := Lib.hid hd
  obtain ⟨s, sb, f, bb, v, rfl, H⟩ := H
  have HH := Lib.hid H
  have HK := Lib.hid (show IntKind.i64.wrap (at_ - 1) = (k : Int) by rw [IntWalk.i64_in (at_ - 1) (by omega)]; omega)
  have HX := Lib.hid hx
  clear hhas hb H hk hd hx
  unfold headV at HD
  go_enter Try.func19, Try.ntmps19
  go_wp2_with ((first | (go_at_call 37; refine HS.out.mono ?_; rintro e w1 ⟨rfl, rfl⟩) | (go_at_call 48; refine HD.out.mono ?_; rintro e w2 ⟨rfl, x2⟩)))
  have B6 := Lib.hid (Blk.new w2 64 #[.int .i64 (gotS x), .int .i64 (gotF x), .int .i64 (gotO x), .int .i64 c, .bool fi, .bool (gotL x)])
  go_region_held3 (fun w' => w'.cell? ⟨h, 0, none⟩ = some (.pointer (some ⟨s, 0, none⟩)) ∧ w'.cell? ⟨w2.heap.size, 0, none⟩ = some (.int .i64 (gotS x)) ∧ w'.cell? ⟨w2.heap.size, 1, none⟩ = some (.int .i64 (gotF x)) ∧ w'.cell? ⟨w2.heap.size, 2, none⟩ = some (.int .i64 (gotO x)) ∧ w'.cell? ⟨w2.heap.size, 3, none⟩ = some (.int .i64 c) ∧ w'.cell? ⟨w2.heap.size, 4, none⟩ = some (.bool fi) ∧ w'.cell? ⟨w2.heap.size, 5, none⟩ = some (.bool (gotL x)))
    (first | exact c5 | exact ⟨(HH.out.ext X3).blk.cell 0, head_cells (B6.out.ext X4)⟩ | exact ⟨(HH.out.ext ((x2.alloc _).drew)).blk.cell 0, head_cells (B6.out.ext ((Ext.refl _).drew))⟩ | exact ⟨(HH.out.ext (x2.alloc _)).blk.cell 0, head_cells B6.out⟩)
    (first
      | (go_at_call 29; rw [HK.out]; refine (Store.put_y ((HH.out.ext X3).sto) k hkS _).mono ?_; rintro e w5 ⟨rfl, s5, k5⟩; have c5 := And.intro (((HH.out.ext X3).blk.keep k5 ((HH.out.ext X3).blk.ne (HH.out.ext X3).sto.row (by decide))).cell 0) (head_cells ((B6.out.ext X4).keep k5 ((B6.out.ext X4).ne (HH.out.ext X3).sto.row (by decide)))))
      | (go_at_call 30; refine (Header.put _ _ _ _ _ _ _).mono ?_; rintro e w3 ⟨rfl, x3⟩; have X3 := ((x2.alloc _).drew).trans x3; have X4 := ((Ext.refl _).drew).trans x3))
  obtain ⟨h2, k3⟩ := (HH.out.ext X3).put s5 k5 (List.length_set ..) (wd_set HH.out.wd (by have := putN_bd (gotS x) (gotF x) (gotO x) c fi (gotL x); omega))
  have H2 := Lib.hid h2
  have K3 := Lib.hid ((HKp.of_ext X3).trans k3)
  clear s5 k5 h2 k3
  go_wp2_with fail
  go_ret
  exact ⟨rfl, ⟨s, sb, f, bb, v, rfl, H2.out⟩, K3.out⟩
end
end Go.Proofs.Ytjpalcejmloocaa.Heap
