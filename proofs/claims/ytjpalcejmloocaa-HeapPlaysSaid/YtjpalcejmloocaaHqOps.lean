/-
  Contracts of package heap (chapter 5), at any place: Fmt, Size, Hash, in, Field, SetField.
-/
import Derived.Test.YtjpalcejmloocaaHqMake2
import Derived.Test.YtjpalcejmloocaaFreeTakesPlain
namespace Go.Proofs.Ytjpalcejmloocaa.Heap
open Go.RowKit Go.Proofs.Ytjpalcejmloocaa.Plain Go.Proofs.Ytjpalcejmloocaa.Free
set_option linter.unusedVariables false

section
variable {w : World} {h base : Nat} {o : O3} {S : List Int} {L : List Run} {Bg : List Bool}
theorem has_bd {Bg : List Bool} {at_ : Int} (hb : hasB Bg at_ = true) : 0 < at_ ∧ at_ < Bg.length := by
  unfold hasB at hb
  rw [Bool.and_eq_true] at hb
  exact of_decide_eq_true hb.1
theorem Heap.bd (H : Heap w h base o S L Bg) {at_ : Int} (hb : hasB Bg at_ = true) : 0 < at_ ∧ at_ ≤ S.length ∧ S.length ≤ 65536 := by
  obtain ⟨s, sb, f, bb, v, rfl, H⟩ := H
  have := has_bd hb
  have := H.len
  have := H.sto.le
  omega
theorem field1 (a b c d : Int) (e f : Bool) (w : World) : (Instr.field 64 (.agg #[.int .i64 a, .int .i64 b, .int .i64 c, .int .i64 d, .bool e, .bool f]) 1).run Try.prog w = .ok (.int .i64 b) w := by kernel_rfl
theorem field0 (a b c d : Int) (e f : Bool) (w : World) : (Instr.field 64 (.agg #[.int .i64 a, .int .i64 b, .int .i64 c, .int .i64 d, .bool e, .bool f]) 0).run Try.prog w = .ok (.int .i64 a) w := by kernel_rfl
def fmtI (S : List Int) (Bg : List Bool) (at_ : Int) : Int := if hasB Bg at_ then gotF (Store.getL S (at_ - 1)) else 0
set_option maxRecDepth 100000 in
set_option maxHeartbeats 1000000 in
theorem fmt_ (H : Heap w h base o S L Bg) (at_ : Int) : Calls Try.prog 39 #[.pointer (some ⟨h, 0, none⟩), .int .i64 at_] w fun e w' => e = .returned (.int .i64 (fmtI S Bg at_)) ∧ Ext w w' := by
  have E : Hid (fmtI S Bg at_ = if hasB Bg at_ then gotF (Store.getL S (at_ - 1)) else 0) := rfl
  have hhas := has H at_
  cases hb : hasB Bg at_ with
  | false =>
    rw [hb] at hhas E
    have HH := Lib.hid hhas
    clear hhas hb H
    go_enter Try.func39, Try.ntmps39
    go_wp2_with fail
    refine HH.out.mono ?_
    rintro e w1 ⟨rfl, rfl⟩
    go_wp2_with fail
    go_ret
    exact ⟨ret_int (by rw [E.out]; rfl), Ext.refl _⟩
  | true =>
    obtain ⟨b1, b2, b3⟩ := H.bd hb
    rw [hb] at hhas E
    have HH := Lib.hid hhas
    have hhead := Lib.hid (head H at_ (by omega) (by omega))
    generalize Store.getL S (at_ - 1) = x at *
    unfold headV at hhead
    generalize gotF x = r at *
    have hfd := field1
    clear hhas hb H
    go_enter Try.func39, Try.ntmps39
    go_wp2_with fail
    refine HH.out.mono ?_
    rintro e w1 ⟨rfl, rfl⟩
    go_wp2_with fail
    refine hhead.out.mono ?_
    rintro e w2 ⟨rfl, x2⟩
    go_wp2_with fail
    go_ret
    exact ⟨ret_int (by rw [E.out]; rfl), x2⟩
theorem size_ (H : Heap w h base o S L Bg) (at_ : Int) : Calls Try.prog 21 #[.pointer (some ⟨h, 0, none⟩), .int .i64 at_] w fun e w' => e = .returned (.int .i64 (sizeI S Bg at_)) ∧ Ext w w' := by
  cases hb : hasB Bg at_ with
  | true =>
    obtain ⟨b1, b2, b3⟩ := H.bd hb
    exact size H at_ (by omega) (by omega)
  | false =>
    have E : Hid (sizeI S Bg at_ = -1) := by unfold sizeI; rw [hb]; exact Lib.hid (if_neg (by decide))
    have hhas := has H at_
    rw [hb] at hhas
    have HH := Lib.hid hhas
    clear hhas hb H
    go_enter Try.func21, Try.ntmps21
    go_wp2_with fail
    refine HH.out.mono ?_
    rintro e w1 ⟨rfl, rfl⟩
    go_wp2_with fail
    go_ret
    exact ⟨ret_int (by rw [E.out]), Ext.refl _⟩
def hashI (S : List Int) (Bg : List Bool) (at_ : Int) : Int := if hasB Bg at_ then intOfW (Store.getL S (at_ + 1)) else -1
set_option maxHeartbeats 1000000 in
theorem hash_ (H : Heap w h base o S L Bg) (at_ : Int) : Calls Try.prog 41 #[.pointer (some ⟨h, 0, none⟩), .int .i64 at_] w fun e w' => e = .returned (.int .i64 (hashI S Bg at_)) ∧ Ext w w' := by
  have E : Hid (hashI S Bg at_ = if hasB Bg at_ then intOfW (Store.getL S (at_ + 1)) else -1) := rfl
  have hhas := has H at_
  cases hb : hasB Bg at_ with
  | false =>
    rw [hb] at hhas E
    have HH := Lib.hid hhas
    clear hhas hb H
    go_enter Try.func41, Try.ntmps41
    go_wp2_with fail
    refine HH.out.mono ?_
    rintro e w1 ⟨rfl, rfl⟩
    go_wp2_with fail
    go_ret
    exact ⟨ret_int (by rw [E.out]; rfl), Ext.refl _⟩
  | true =>
    obtain ⟨b1, b2, b3⟩ := H.bd hb
    rw [hb] at hhas E
    have HH := Lib.hid hhas
    obtain ⟨s, sb, f, bb, v, rfl, H⟩ := H
    obtain ⟨r1, r2, r3⟩ := H.blk.rules
    obtain ⟨g1, g2⟩ := getL_bd H.wd (at_ + 1)
    have HG := Lib.hid (Store.get_sto H.sto (at_ + 1))
    generalize Store.getL S (at_ + 1) = x at *
    clear hhas hb H
    go_enter Try.func41, Try.ntmps41
    go_wp2_with fail
    refine HH.out.mono ?_
    rintro e w1 ⟨rfl, rfl⟩
    go_wp2_with fail
    rw [show at_ - 1 + 2 = at_ + 1 from by omega]
    refine HG.out.mono ?_
    rintro e w2 ⟨rfl, rfl⟩
    go_wp2_with fail
    refine (Word.intof _ _ g1 g2).mono ?_
    rintro e w3 ⟨rfl, rfl⟩
    go_wp2_with fail
    go_ret
    exact ⟨ret_int (by rw [E.out]; rfl), Ext.refl _⟩
def inB (S : List Int) (Bg : List Bool) (at_ i : Int) (by_ : Bool) : Bool := hasB Bg at_ && ((fmtI S Bg at_ == 3) == by_) && decide (0 ≤ i) && decide (i < sizeI S Bg at_)
set_option maxRecDepth 100000 in
set_option maxHeartbeats 1000000 in
theorem in_ (H : Heap w h base o S L Bg) (at_ i : Int) (by_ : Bool) : Calls Try.prog 52 #[.pointer (some ⟨h, 0, none⟩), .int .i64 at_, .int .i64 i, .bool by_] w fun e w' => e = .returned (.bool (inB S Bg at_ i by_)) ∧ Ext w w' := by
  have E : Hid (inB S Bg at_ i by_ = (hasB Bg at_ && ((fmtI S Bg at_ == 3) == by_) && decide (0 ≤ i) && decide (i < sizeI S Bg at_))) := rfl
  have hhas := has H at_
  have HF := Lib.hid (fun (w' : World) (x : Ext w w') => fmt_ (H.ext x) at_)
  have HS := Lib.hid (fun (w' : World) (x : Ext w w') => size_ (H.ext x) at_)
  generalize sizeI S Bg at_ = sz at *
  generalize fmtI S Bg at_ = fm at *
  cases hb : hasB Bg at_ with
  | false =>
    rw [hb] at hhas E
    have HH := Lib.hid hhas
    clear hhas hb H
    go_enter Try.func52, Try.ntmps52
    go_wp2_with fail
    refine HH.out.mono ?_
    rintro e w1 ⟨rfl, rfl⟩
    go_wp2_with fail
    go_ret
    exact ⟨ret_bool (by rw [E.out]; rfl), Ext.refl _⟩
  | true =>
    rw [hb] at hhas E
    have HH := Lib.hid hhas
    clear hhas hb H
    generalize hf3 : (fm == 3) = f3 at E
    cases hq : (f3 == by_) with
    | false =>
      rw [hq] at E
      go_enter Try.func52, Try.ntmps52
      go_wp2_with fail
      refine HH.out.mono ?_
      rintro e w1 ⟨rfl, rfl⟩
      go_wp2_with fail
      refine (HF.out _ (Ext.refl _)).mono ?_
      rintro e w2 ⟨rfl, x2⟩
      go_wp2_with fail
      go_ret
      exact ⟨ret_bool (by rw [E.out]; rfl), x2⟩
    | true =>
      rw [hq] at E
      by_cases hi : 0 ≤ i
      · have di : decide (0 ≤ i) = true := decide_eq_true hi
        rw [di] at E
        go_enter Try.func52, Try.ntmps52
        go_wp2_with fail
        refine HH.out.mono ?_
        rintro e w1 ⟨rfl, rfl⟩
        go_wp2_with fail
        refine (HF.out _ (Ext.refl _)).mono ?_
        rintro e w2 ⟨rfl, x2⟩
        go_wp2_with fail
        refine (HS.out _ x2).mono ?_
        rintro e w3 ⟨rfl, x3⟩
        go_wp2_with fail
        go_ret
        exact ⟨ret_bool (by rw [E.out]; rfl), x2.trans x3⟩
      · have di : decide (0 ≤ i) = false := decide_eq_false hi
        rw [di] at E
        go_enter Try.func52, Try.ntmps52
        go_wp2_with fail
        refine HH.out.mono ?_
        rintro e w1 ⟨rfl, rfl⟩
        go_wp2_with fail
        refine (HF.out _ (Ext.refl _)).mono ?_
        rintro e w2 ⟨rfl, x2⟩
        go_wp2_with fail
        go_ret
        exact ⟨ret_bool (by rw [E.out]; rfl), x2⟩
set_option maxRecDepth 100000 in
set_option maxHeartbeats 1000000 in
theorem field_no (H : Heap w h base o S L Bg) (at_ i : Int) (hin : inB S Bg at_ i false = false) : Calls Try.prog 42 #[.pointer (some ⟨h, 0, none⟩), .int .i64 at_, .int .i64 i] w fun e w' => e = .returned (.int .u32 0) ∧ Ext w w' := by
  have hi := in_ H at_ i false
  rw [hin] at hi
  have HI := Lib.hid hi
  clear hi hin H
  go_enter Try.func42, Try.ntmps42
  go_wp2_with fail
  refine HI.out.mono ?_
  rintro e w1 ⟨rfl, x1⟩
  go_wp2_with fail
  go_ret
  exact ⟨rfl, x1⟩
set_option maxRecDepth 100000 in
set_option maxHeartbeats 1000000 in
theorem field_yes (H : Heap w h base o S L Bg) (at_ i : Int) (hin : inB S Bg at_ i false = true) (hi1 : i ≤ 100000) : Calls Try.prog 42 #[.pointer (some ⟨h, 0, none⟩), .int .i64 at_, .int .i64 i] w fun e w' => e = .returned (.int .u32 (Store.getL S (at_ + 2 + i))) ∧ Ext w w' := by
  have hi := in_ H at_ i false
  rw [hin] at hi
  have HI := Lib.hid hi
  have hb : hasB Bg at_ = true ∧ 0 ≤ i := by
    unfold inB at hin
    rw [Bool.and_eq_true, Bool.and_eq_true, Bool.and_eq_true] at hin
    exact ⟨hin.1.1.1, of_decide_eq_true hin.1.2⟩
  obtain ⟨hb, hi0⟩ := hb
  obtain ⟨b1, b2, b3⟩ := H.bd hb
  obtain ⟨s, sb, f, bb, v, rfl, H⟩ := H
  obtain ⟨r1, r2, r3⟩ := H.blk.rules
  have HG := Lib.hid H.sto
  have HB := Lib.hid H.blk
  clear hi hin H r1 r2
  go_enter Try.func42, Try.ntmps42
  go_wp2_with fail
  refine HI.out.mono ?_
  rintro e w1 ⟨rfl, x1⟩
  obtain ⟨r1, r2, r3⟩ := (HB.out.ext x1).rules
  go_wp2_with fail
  rw [show at_ - 1 + 3 + i = at_ + 2 + i from by omega]
  refine (Store.get_sto (HG.out.ext x1) _).mono ?_
  rintro e w2 ⟨rfl, rfl⟩
  go_wp2_with fail
  go_ret
  exact ⟨rfl, x1⟩
set_option maxRecDepth 100000 in
set_option maxHeartbeats 1000000 in
theorem setfield_no (H : Heap w h base o S L Bg) (at_ i x : Int) (hin : inB S Bg at_ i false = false) : Calls Try.prog 13 #[.pointer (some ⟨h, 0, none⟩), .int .i64 at_, .int .i64 i, .int .u32 x] w fun e w' => e = .returned (.bool false) ∧ Ext w w' := by
  have hi := in_ H at_ i false
  rw [hin] at hi
  have HI := Lib.hid hi
  clear hi hin H
  go_enter Try.func13, Try.ntmps13
  go_wp2_with fail
  refine HI.out.mono ?_
  rintro e w1 ⟨rfl, x1⟩
  go_wp2_with fail
  go_ret
  exact ⟨rfl, x1⟩
def Turned (w : World) (h base : Nat) (o : O3) (S : List Int) (L : List Run) (Bg : List Bool) (e : Ending) (w' : World) : Prop := e = .returned (.bool true) ∧ Heap w' h base o S L Bg ∧ HKp base o w w'
set_option maxRecDepth 100000 in
set_option maxHeartbeats 1000000 in
theorem setfield_yes (H : Heap w h base o S L Bg) (at_ i x : Int) (k : Nat) (hk : at_ + 2 + i = k) (hkS : k < S.length) (hx : 0 ≤ x ∧ x < 4294967296) (hin : inB S Bg at_ i false = true) (hi1 : i ≤ 100000) :
    Calls Try.prog 13 #[.pointer (some ⟨h, 0, none⟩), .int .i64 at_, .int .i64 i, .int .u32 x] w (Turned w h base o (S.set k x) L Bg) := by
  have hi := in_ H at_ i false
  rw [hin] at hi
  have HI := Lib.hid hi
  have hb : hasB Bg at_ = true ∧ 0 ≤ i := by
    unfold inB at hin
    rw [Bool.and_eq_true, Bool.and_eq_true, Bool.and_eq_true] at hin
    exact ⟨hin.1.1.1, of_decide_eq_true hin.1.2⟩
  obtain ⟨hb, hi0⟩ := hb
  obtain ⟨b1, b2, b3⟩ := H.bd hb
  obtain ⟨s, sb, f, bb, v, rfl, H⟩ := H
  have HH := Lib.hid H
  have HK := Lib.hid hk
  clear hi hin H hk
  go_enter Try.func13, Try.ntmps13
  go_wp2_with fail
  refine HI.out.mono ?_
  rintro e w1 ⟨rfl, x1⟩
  obtain ⟨r1, r2, r3⟩ := (HH.out.ext x1).blk.rules
  go_wp2_with fail
  rw [show at_ - 1 + 3 + i = (k : Int) from by have := HK.out; omega]
  refine (Store.put_y (HH.out.ext x1).sto k hkS x).mono ?_
  rintro e w2 ⟨rfl, s2, k2⟩
  obtain ⟨h2, k3⟩ := (HH.out.ext x1).put s2 k2 (List.length_set ..) (wd_set HH.out.wd hx)
  go_wp2_with fail
  go_ret
  exact ⟨rfl, ⟨s, sb, f, bb, v, rfl, h2⟩, (HKp.of_ext x1).trans k3⟩
theorem drop_no (H : Heap w h base o S L Bg) (at_ : Int) (hb : hasB Bg at_ = false) : Calls Try.prog 11 #[.pointer (some ⟨h, 0, none⟩), .int .i64 at_] w fun e w' => e = .returned (.bool false) ∧ w = w' := by
  have hhas := has H at_
  rw [hb] at hhas
  have HH := Lib.hid hhas
  clear hhas hb H
  go_enter Try.func11, Try.ntmps11
  go_wp2_with fail
  refine HH.out.mono ?_
  rintro e w1 ⟨rfl, rfl⟩
  go_wp2_with fail
  go_ret
  exact ⟨rfl, rfl⟩
def Dropped (w : World) (h base : Nat) (o : O3) (S : List Int) (L : List Run) (Bg : List Bool) (a n : Int) (e : Ending) (w' : World) : Prop :=
  e = .returned (.bool true) ∧ (∃ L', Heap w' h base o S L' Bg ∧ Free.Can 0 L' ∧ ∀ x, Free.has L' x ↔ Free.has L x ∨ (a ≤ x ∧ x < a + n)) ∧ HKp base o w w'
theorem Hp.gave {s sb f bb : Nat} {v : Value} {w' : World} {L' : List Run} (H : Hp w h s sb f bb base v S L Bg) (k : TK w f base w') (F : Fr w f base L S.length) (F' : Fr w' f base L' S.length) : ∃ v', Hp w' h s sb f bb base v' S L' Bg := by
  obtain ⟨v', hv'⟩ := F'.fre
  have kt := tk_kt F k
  exact ⟨v', blk_kt H.blk kt (by decide), ⟨blk_kt H.sto.head kt (by decide), blk_kt H.sto.row kt (by decide), H.sto.le⟩, hv', blk_kt H.bg kt (by decide), H.len, fun r hr => F'.upto r hr, H.wd, H.lo⟩
set_option maxRecDepth 100000 in
set_option maxHeartbeats 1000000 in
theorem drop_yes (H : Heap w h base o S L Bg) (at_ : Int) (k : Nat) (n : Int) (hk : at_ = (k : Int) + 1) (hb : hasB Bg at_ = true) (hn : 3 + gotS (Store.getL S (k : Int)) = n) (hc : Free.Can 0 L) (ok : GiveOk L S.length k n) (hbase : base ≤ w.heap.size) :
    Calls Try.prog 11 #[.pointer (some ⟨h, 0, none⟩), .int .i64 at_] w (Dropped w h base o (S.set k 0) L (Bg.set (k + 1) false) k n) := by
  subst hk
  have hhas := has H ((k : Int) + 1)
  rw [hb] at hhas
  have HHS := Lib.hid hhas
  obtain ⟨b1, b2, b3⟩ := H.bd hb
  have hhead := head H ((k : Int) + 1) (by omega) (by omega)
  rw [show (k : Int) + 1 - 1 = (k : Int) from by omega] at hhead
  obtain ⟨s, sb, f, bb, v, rfl, H⟩ := H
  have HH := Lib.hid H
  have HN := Lib.hid hn
  have hgb := got_bds (Store.getL S (k : Int))
  generalize Store.getL S (k : Int) = x at *
  have HHD := Lib.hid hhead
  have hfd := field0
  have hlen := H.len
  clear hhas hhead H hb hn
  have OK := Lib.hid ok
  have HC := Lib.hid hc
  clear ok hc
  go_enter Try.func11, Try.ntmps11
  go_wp2_with fail
  refine HHS.out.mono ?_
  rintro e w1 ⟨rfl, rfl⟩
  go_wp2_with fail
  refine HHD.out.mono ?_
  rintro e w2 ⟨rfl, x2⟩
  unfold headV
  have H2 := Lib.hid (HH.out.ext x2)
  obtain ⟨r1, r2, r3⟩ := H2.out.blk.rules
  obtain ⟨gb1, gb2, _⟩ := hgb
  go_wp2_with fail
  refine (Store.put_y H2.out.sto k (by omega) 0).mono ?_
  rintro e w3 ⟨rfl, s3, k3⟩
  obtain ⟨h3, k4⟩ := H2.out.put s3 k3 (List.length_set ..) (wd_set HH.out.wd (by decide))
  obtain ⟨h5, k5⟩ := h3.mark (k + 1) false
  obtain ⟨q1, q2, q3⟩ := h3.blk.rules
  obtain ⟨q4, q5, q6⟩ := h3.bg.rules
  have c1 : w3.cell? ⟨bb, k + 1, none⟩ = some (.bool (Bg.getD (k + 1) false)) := (h3.bg.cell (k + 1)).trans (bg_at Bg (k + 1) (by omega))
  have F5 : Fr _ f base L S.length := ⟨⟨v, by have := h5.fre; rw [List.length_set] at this; exact this⟩, HC.out, HH.out.up, HH.out.sto.le⟩
  have HF5 := Lib.hid F5
  have H5 := Lib.hid h5
  have K5 := Lib.hid (((HKp.of_ext (base := base) x2).trans k4).trans k5)
  obtain ⟨z1, z2, z3⟩ := h5.blk.rules
  have e1 : (k : Int) + 1 < (Bg.length : Int) := by omega
  have e2 : ((k : Int) + 1).toNat = k + 1 := by omega
  clear F5 h5 h3 k3 k4 k5 s3 q4
  generalize Bg.getD (k + 1) false = bv at *
  go_wp2_with fail
  rw [HN.out]
  refine (give HF5.out (Nat.le_trans hbase K5.out.size) _ _ OK.out).mono ?_
  rintro e w6 ⟨rfl, ⟨L6, f6, h6⟩, k6⟩
  obtain ⟨v6, h7⟩ := H5.out.gave k6 (by rw [List.length_set]; exact HF5.out) (by rw [List.length_set]; exact f6)
  have k7 : HKp base ⟨sb, f, bb⟩ w w6 := K5.out.trans (Keep.mono k6 (fun j hj => by rcases hj with rfl | ⟨hj, cs, hcs⟩; exact ⟨HH.out.lo.2.2.2.1, .inl (.inr (.inl rfl))⟩; exact ⟨hj, .inr ⟨_, hcs⟩⟩))
  go_wp2_with fail
  go_ret
  exact ⟨rfl, ⟨L6, ⟨s, sb, f, bb, v6, rfl, h7⟩, f6.can, h6⟩, k7⟩
end
end Go.Proofs.Ytjpalcejmloocaa.Heap
