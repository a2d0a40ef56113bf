/-
  HeapSet, LoadMake, Image, as one text (a claim has at most 60 files).
-/
import Derived.Test.YtjpalcejmloocaaGreatVq11
import Derived.Test.YtjpalcejmloocaaGreatVq12
import Derived.Test.YtjpalcejmloocaaGreatVq05
import Derived.WalkSpells
import Derived.WalkMore
import Derived.Lib.Hide
import Derived.Deep.RegionHeld3
import Derived.Deep.DrawnRows
namespace Go.Proofs.YtjpalcejmloocaaGreat.Heap
open Go.RowKit Go.Proofs.YtjpalcejmloocaaGreat.Plain Go.Proofs.YtjpalcejmloocaaGreat.Free
set_option linter.unusedVariables false
section
variable {w : World} {h base : Nat} {S : List Int} {L : List Run} {Bg : List Bool}
set_option maxRecDepth 100000 in
set_option maxHeartbeats 1000000 in
theorem setclass_yes (H : Heap w h base S L Bg) (at_ c : Int) (k : Nat) (hk : at_ = k) (hkS : k < S.length) (c0 : 0 ≤ c) (c1 : c ≤ 65536) (hb : hasB Bg at_ = true) :
    Calls Tryz.prog 122 #[.pointer (some ⟨h, 0, none⟩), .int .i64 at_, .int .i64 c] w (Turned w h base (S.set k (refW c)) L Bg) := by
  have HS : Hid (∀ y, Ext w y → Calls Tryz.prog 140 #[.pointer (some ⟨h, 0, none⟩), .int .i64 at_] y fun e w' => e = .returned (.bool true) ∧ y = w') := fun y x => by
    have := has (H.ext x) at_
    rwa [hb] at this
  obtain ⟨b1, b2, b3⟩ := H.bd hb
  obtain ⟨s, sb, f, bb, v, H⟩ := H
  have HH := Lib.hid H
  obtain ⟨r1, r2, r3⟩ := H.blk.rules
  have d0 : decide (c ≥ 0) = true := decide_eq_true c0
  have d1 : decide (c ≤ 65536) = true := decide_eq_true c1
  have HK := Lib.hid (show IntKind.i64.wrap (IntKind.i64.wrap (at_ - 1) + 1) = (k : Int) by rw [IntWalk.i64_in (at_ - 1) (by omega), IntWalk.i64_in _ (by omega)]; omega)
  clear hb H hk
  go_enter Tryz.func122, Tryz.ntmps122
  go_wp2_with fail
  go_region_held3 (fun w' => w'.cell? ⟨h, 0, none⟩ = some (.pointer (some ⟨s, 0, none⟩))) (first | exact (HH.out.ext ((Ext.refl _).drew)).blk.cell 0 | exact c5 | exact HH.out.blk.cell 0)
    (first
      | (go_at_call 137; rw [HK.out]; refine (Store.put_y ((HH.out.ext ((Ext.refl _).drew)).sto) k hkS _).mono ?_; rintro e w5 ⟨rfl, s5, k5⟩; have c5 := ((HH.out.ext ((Ext.refl _).drew)).blk.keep k5 ((HH.out.ext ((Ext.refl _).drew)).blk.ne (HH.out.ext ((Ext.refl _).drew)).sto.row (by decide))).cell 0)
      | (go_at_call 140; refine (HS.out _ ((Ext.refl _).drew)).mono ?_; rintro e w1 ⟨rfl, rfl⟩)
      | (go_at_call 139; refine (Word.ref _ _ (by omega) (by omega)).mono ?_; rintro e w1 ⟨rfl, rfl⟩))
  obtain ⟨h2, k3⟩ := (HH.out.ext ((Ext.refl _).drew)).put s5 k5 (List.length_set ..) (wd_set HH.out.wd (refW_bd c))
  have H2 := Lib.hid h2
  have K3 := Lib.hid ((HKp.of_ext ((Ext.refl _).drew)).trans k3)
  clear s5 k5 h2 k3
  go_wp2_with fail
  go_ret
  exact ⟨rfl, ⟨s, sb, f, bb, v, H2.out⟩, K3.out⟩
theorem head_cells {w : World} {g : Nat} {a b c d e f : Value} (B : Blk w g 190 #[a, b, c, d, e, f]) :
    w.cell? ⟨g, 0, none⟩ = some a ∧ w.cell? ⟨g, 1, none⟩ = some b ∧ w.cell? ⟨g, 2, none⟩ = some c ∧ w.cell? ⟨g, 3, none⟩ = some d ∧ w.cell? ⟨g, 4, none⟩ = some e ∧ w.cell? ⟨g, 5, none⟩ = some f :=
  ⟨B.cell 0, B.cell 1, B.cell 2, B.cell 3, B.cell 4, B.cell 5⟩
set_option maxRecDepth 100000 in
set_option maxHeartbeats 1000000 in
theorem setmark_yes (H : Heap w h base S L Bg) (at_ c : Int) (fi : Bool) (k : Nat) (hk : at_ = (k : Int) + 1) (hkS : k < S.length) (c0 : 0 ≤ c) (c1 : c ≤ 2) (hb : hasB Bg at_ = true) {x : Int} (hx : Store.getL S (k : Int) = x) :
    Calls Tryz.prog 123 #[.pointer (some ⟨h, 0, none⟩), .int .i64 at_, .int .i64 c, .bool fi] w (Turned w h base (S.set k (putN (gotS x) (gotF x) (gotO x) c fi (gotL x))) L Bg) := by
  have hhas := has H at_
  rw [hb] at hhas
  have HS := Lib.hid hhas
  obtain ⟨b1, b2, b3⟩ := H.bd hb
  have hd := head H at_ (by omega) (by omega)
  rw [show at_ - 1 = (k : Int) by omega, hx] at hd
  have HD := Lib.hid hd
  obtain ⟨s, sb, f, bb, v, H⟩ := H
  have HH := Lib.hid H
  have HK := Lib.hid (show IntKind.i64.wrap (at_ - 1) = (k : Int) by rw [IntWalk.i64_in (at_ - 1) (by omega)]; omega)
  have HX := Lib.hid hx
  clear hhas hb H hk hd hx
  unfold headV at HD
  go_enter Tryz.func123, Tryz.ntmps123
  go_wp2_with ((first | (go_at_call 140; refine HS.out.mono ?_; rintro e w1 ⟨rfl, rfl⟩) | (go_at_call 141; refine HD.out.mono ?_; rintro e w2 ⟨rfl, x2⟩)))
  have B6 := Lib.hid (Blk.new w2 190 #[.int .i64 (gotS x), .int .i64 (gotF x), .int .i64 (gotO x), .int .i64 c, .bool fi, .bool (gotL x)])
  go_region_held3 (fun w' => w'.cell? ⟨h, 0, none⟩ = some (.pointer (some ⟨s, 0, none⟩)) ∧ w'.cell? ⟨w2.heap.size, 0, none⟩ = some (.int .i64 (gotS x)) ∧ w'.cell? ⟨w2.heap.size, 1, none⟩ = some (.int .i64 (gotF x)) ∧ w'.cell? ⟨w2.heap.size, 2, none⟩ = some (.int .i64 (gotO x)) ∧ w'.cell? ⟨w2.heap.size, 3, none⟩ = some (.int .i64 c) ∧ w'.cell? ⟨w2.heap.size, 4, none⟩ = some (.bool fi) ∧ w'.cell? ⟨w2.heap.size, 5, none⟩ = some (.bool (gotL x)))
    (first | exact c5 | exact ⟨(HH.out.ext X3).blk.cell 0, head_cells (B6.out.ext X4)⟩ | exact ⟨(HH.out.ext ((x2.alloc _).drew)).blk.cell 0, head_cells (B6.out.ext ((Ext.refl _).drew))⟩ | exact ⟨(HH.out.ext (x2.alloc _)).blk.cell 0, head_cells B6.out⟩)
    (first
      | (go_at_call 137; rw [HK.out]; refine (Store.put_y ((HH.out.ext X3).sto) k hkS _).mono ?_; rintro e w5 ⟨rfl, s5, k5⟩; have c5 := And.intro (((HH.out.ext X3).blk.keep k5 ((HH.out.ext X3).blk.ne (HH.out.ext X3).sto.row (by decide))).cell 0) (head_cells ((B6.out.ext X4).keep k5 ((B6.out.ext X4).ne (HH.out.ext X3).sto.row (by decide)))))
      | (go_at_call 138; refine (Header.put _ _ _ _ _ _ _).mono ?_; rintro e w3 ⟨rfl, x3⟩; have X3 := ((x2.alloc _).drew).trans x3; have X4 := ((Ext.refl _).drew).trans x3))
  obtain ⟨h2, k3⟩ := (HH.out.ext X3).put s5 k5 (List.length_set ..) (wd_set HH.out.wd (by have := putN_bd (gotS x) (gotF x) (gotO x) c fi (gotL x); omega))
  have H2 := Lib.hid h2
  have K3 := Lib.hid ((HKp.of_ext X3).trans k3)
  clear s5 k5 h2 k3
  go_wp2_with fail
  go_ret
  exact ⟨rfl, ⟨s, sb, f, bb, v, H2.out⟩, K3.out⟩
end
end Go.Proofs.YtjpalcejmloocaaGreat.Heap
namespace Go.Proofs.YtjpalcejmloocaaGreat.Heap
open Go.RowKit Go.Proofs.YtjpalcejmloocaaGreat.Plain Go.Proofs.YtjpalcejmloocaaGreat.Free
open Go.Proofs.YtjpalcejmloocaaGreat.World (firstT)
set_option linter.unusedVariables false
theorem first_facts : ∀ i, i < 23 → (((firstT i).fmt = 3 ∧ (firstT i).F.length = 0 ∧ (firstT i).B.size ≤ 8) ∨ ((firstT i).fmt = 1 ∧ (firstT i).B.size = 0 ∧ (firstT i).F.length ≤ 8)) ∧ (firstT i).hash = (i : Int) + 1 := by decide +kernel
theorem first_odd : ∀ i, i < 23 → (firstT i).fmt = 3 → ((firstT i).B.size + 3) / 4 * 4 = (firstT i).B.size := by decide +kernel
def Made1 (w : World) (h base i : Nat) (e : Ending) (w' : World) : Prop :=
  e = .returned (.tuple #[.int .i64 ((tO i : Int) + 1), .bool true]) ∧ Heap w' h base (fS (i + 1)) (fL (i + 1)) (fB (i + 1)) ∧ HKp base w w'
theorem make1 {w : World} {h base i : Nat} (hi : i < 23) (H : Heap w h base (fS i) (fL i) (fB i)) :
    Calls Tryz.prog 121 #[.pointer (some ⟨h, 0, none⟩), .int .i64 (firstT i).fmt, .int .i64 (((firstT i).F.length : Int) + ((firstT i).B.size : Int)), .int .i64 0, .int .i64 (firstT i).hash] w (Made1 w h base i) := by
  obtain ⟨hf, hh⟩ := first_facts i hi
  obtain ⟨n1, n2⟩ := fL_next hi
  have key : ∀ {fmt odd : Int} {e : Ending} {w' : World}, fmt = (firstT i).fmt → odd = 0 → MakePost w h base (fS i) (fL i) (fB i) (tW i) fmt odd 0 (firstT i).hash (tX i) e w' → Made1 w h base i e w' := by
    rintro fmt odd e w' rfl rfl ⟨_, p⟩
    obtain ⟨k, hk, he, hH, hK⟩ := p 0 n1
    have ek : k = tO i := by
      have : ((tO i : Nat) : Int) = (k : Int) := hk
      omega
    subst ek
    rw [n2] at hH
    exact ⟨he, hH, hK⟩
  rcases hf with ⟨f1, f2, f3⟩ | ⟨f1, f2, f3⟩
  · have od := first_odd i hi f1
    have eW : tW i = ((firstT i).B.size + 3) / 4 := by unfold tW; rw [if_pos f1]
    have eX : tX i = 0 := by unfold tX; rw [if_pos f1]
    have m := make_bytes H (firstT i).B.size 0 (firstT i).hash (tW i) (by omega) eW (by omega) (by omega) (by omega) (by omega)
    rw [f1, f2, show ((0 : Nat) : Int) + ((firstT i).B.size : Int) = ((firstT i).B.size : Int) by omega]
    refine m.mono ?_
    intro e w' p
    refine key (fmt := 3) (odd := (tW i : Int) * 4 - ((firstT i).B.size : Int)) f1.symm (by rw [eW]; omega) ?_
    rw [eX]; exact p
  · have eW : tW i = (firstT i).F.length := by unfold tW; rw [if_neg (by omega)]
    have eX : tX i = intW 0 := by unfold tX; rw [if_neg (by omega)]
    have m := make_plain H 1 (.inl rfl) (tW i) 0 (firstT i).hash (by omega) (by omega) (by omega) (by omega) (by omega)
    rw [f1, f2, show ((firstT i).F.length : Int) + ((0 : Nat) : Int) = (tW i : Int) by omega]
    refine m.mono ?_
    intro e w' p
    refine key (fmt := 1) (odd := 0) f1.symm rfl ?_
    rw [eX]; exact p
end Go.Proofs.YtjpalcejmloocaaGreat.Heap
namespace Go.Proofs.YtjpalcejmloocaaGreat.World
open Go.RowKit Go.Proofs.YtjpalcejmloocaaGreat.Plain
set_option linter.unusedVariables false
attribute [local go_sem ↓] Go.wp_at_zero Go.wp_at_succ

section
variable {w : World} {x : WV} {W : PW}
/-- a world's value, its slices written out -/
theorem Row.form {v : Value} {n sz : Nat} {c : Nat → Nat → Value} (h : Row w v n sz c) : ∃ A cap, v = .slice A n cap ∧ n ≤ cap ∧ cap ≤ 9223372036854775807 := by
  obtain ⟨A, cap, e, h1, h2, _⟩ := h.ex
  exact ⟨A, cap, e, h1, h2⟩
theorem Row.at_ {A : Option Addr} {n cap sz : Nat} {c : Nat → Nat → Value} (h : Row w (.slice A n cap) n sz c) (i : Nat) (hi : i < n) : ∃ b off, A = some ⟨b, off, none⟩ ∧ b < w.heap.size ∧ ∀ j, j < sz → w.cell? ⟨b, off + i * sz + j, none⟩ = some (c i j) := by
  obtain ⟨A', cap', e, _, _, h3⟩ := h.ex
  injection e with e1 e2 e3
  subst e1
  exact h3 i hi
def deadOk (W : PW) : Prop := W.dead.length = 0 ∨ W.dead.length = W.L.length
set_option maxRecDepth 100000 in
set_option maxHeartbeats 1000000 in
theorem alive (h : WorldAt w x W) (hd : deadOk W) (at_ : Int) : Calls Tryz.prog 82 #[.agg (cellsW W x), .int .i64 at_] w fun e w' => e = .returned (.bool (liveB W at_)) ∧ Ext w w' := by
  obtain ⟨vL, fs, vD, vRe, vWa, vDu, vSn⟩ := x
  obtain ⟨AL, cL, e1, l1, l2⟩ := h.L.row.form
  obtain ⟨AD, cD, e2, l3, l4⟩ := Row.form h.dead
  have e1 : vL = .slice AL W.L.length cL := e1
  have e2 : vD = .slice AD W.dead.length cD := e2
  subst e1 e2
  have HD : BoolsAt w (.slice AD W.dead.length cD) W.dead := h.dead
  have E : Hid (liveB W at_ = (decide (0 ≤ at_ ∧ at_ < W.L.length) && !(W.dead.getD at_.toNat false))) := rfl
  unfold deadOk at hd
  unfold cellsW
  by_cases h1 : 0 ≤ at_
  · by_cases h2 : at_ < (W.L.length : Int)
    · obtain ⟨k, rfl⟩ := Int.eq_ofNat_of_zero_le h1
      rw [decide_eq_true ⟨h1, h2⟩, Int.toNat_natCast] at E
      by_cases h3 : W.dead.length = 0
      · have e3 : Hid (W.dead.getD k false = false) := Lib.hid (by rw [List.getD_eq_getElem?_getD, List.getElem?_eq_none (by omega)]; rfl)
        have d3 : ((W.dead.length : Int) == 0) = true := beq_iff_eq.2 (by omega)
        clear h HD hd h3
        generalize W.L.length = n at *
        generalize W.dead.length = m at *
        go_enter Tryz.func82, Tryz.ntmps82
        go_wp2
        go_ret
        exact ⟨ret_bool (by rw [E.out, e3.out]; rfl), (Ext.refl _).alloc _⟩
      · obtain ⟨b, off, rfl, hb, hc⟩ := Row.at_ HD k (by omega)
        have c1 := hc 0 (by omega)
        have c1 : w.cell? ⟨b, off + k, none⟩ = some (.bool (W.dead.getD k false)) := by simpa using c1
        have d3 : ((W.dead.length : Int) == 0) = false := beq_eq_false_iff_ne.2 (by omega)
        have h4 : (k : Int) < (W.dead.length : Int) := by omega
        clear h HD hd h3 hc
        generalize W.L.length = n at *
        generalize W.dead.length = m at *
        generalize W.dead.getD k false = q at *
        go_enter Tryz.func82, Tryz.ntmps82
        go_wp2
        go_ret
        exact ⟨ret_bool (by rw [E.out]; rfl), (Ext.refl _).alloc _⟩
    · have E2 : Hid (liveB W at_ = false) := Lib.hid (by rw [E.out, decide_eq_false (by omega), Bool.false_and])
      have d1 : decide (at_ < (W.L.length : Int)) = false := decide_eq_false h2
      clear h HD hd E
      generalize W.L.length = n at *
      go_enter Tryz.func82, Tryz.ntmps82
      go_wp2
      go_ret
      exact ⟨ret_bool (by rw [E2.out]), (Ext.refl _).alloc _⟩
  · have E2 : Hid (liveB W at_ = false) := Lib.hid (by rw [E.out, decide_eq_false (by omega), Bool.false_and])
    have d1 : decide (0 ≤ at_) = false := decide_eq_false h1
    clear h HD hd E
    go_enter Tryz.func82, Tryz.ntmps82
    go_wp2
    go_ret
    exact ⟨ret_bool (by rw [E2.out]), (Ext.refl _).alloc _⟩
set_option maxRecDepth 100000 in
set_option maxHeartbeats 1000000 in
theorem there (h : WorldAt w x W) (hd : deadOk W) (at_ : Int) : Calls Tryz.prog 53 #[.agg (cellsW W x), .int .i64 at_] w fun e w' => e = .returned (.bool (thereB W at_)) ∧ Ext w w' := by
  have HA := Lib.hid (fun w' (e : Ext w w') => alive (h.ext e) hd at_)
  have E : Hid (thereB W at_ = (!decide (at_ = 0) && liveB W at_)) := rfl
  obtain ⟨vL, fs, vD, vRe, vWa, vDu, vSn⟩ := x
  unfold cellsW at HA ⊢
  clear h hd
  by_cases h0 : at_ = 0
  · have E2 : Hid (thereB W at_ = false) := Lib.hid (by rw [E.out, decide_eq_true h0]; rfl)
    subst h0
    clear E
    go_enter Tryz.func53, Tryz.ntmps53
    go_wp2
    go_ret
    exact ⟨ret_bool (by rw [E2.out]), (Ext.refl _).alloc _⟩
  · have E2 : Hid (thereB W at_ = liveB W at_) := Lib.hid (by rw [E.out, decide_eq_false h0]; rfl)
    have d0 : (at_ != 0) = true := by simpa using h0
    clear E h0
    generalize liveB W at_ = q at *
    go_enter Tryz.func53, Tryz.ntmps53
    go_wp2_with fail
    refine (HA.out _ ((Ext.refl _).alloc _)).mono ?_
    rintro e w1 ⟨rfl, x1⟩
    go_wp2_with fail
    go_ret
    exact ⟨ret_bool (by rw [E2.out]), ((Ext.refl _).alloc _).trans x1⟩
/-! ### a thing's shape -/
def thingV (t : PT) (vF : Value) : Value := .agg #[.int .i64 t.cls, .int .i64 t.fmt, .int .i64 t.hash, .bool t.fin, vF, .string t.B]
set_option maxRecDepth 100000 in
set_option maxHeartbeats 1000000 in
theorem isClass {t : PT} {vF : Value} (h : ValsAt w vF t.F) : Calls Tryz.prog 83 #[thingV t vF] w fun e w' => e = .returned (.bool (isClsB t)) ∧ Ext w w' := by
  obtain ⟨A, c, rfl, h1, h2⟩ := Row.form h
  have E : Hid (isClsB t = (decide (t.fmt = 1) && (decide (5 ≤ t.F.length) && (numB (vAt t.F 3) 0 60 && numB (vAt t.F 4) 1 3)))) := rfl
  have HR := Lib.hid h
  unfold thingV
  clear h
  by_cases f1 : t.fmt = 1
  · rw [decide_eq_true f1] at E
    rw [f1]
    by_cases f5 : 5 ≤ t.F.length
    · rw [decide_eq_true f5] at E
      obtain ⟨b, off, rfl, hb, hc3⟩ := Row.at_ HR.out 3 (by omega)
      obtain ⟨b', off', e', _, hc4⟩ := Row.at_ HR.out 4 (by omega)
      injection e' with e'
      injection e' with e1 e2
      subst e1 e2
      have c30 : w.cell? ⟨b, off + 6, none⟩ = some (.bool (vAt t.F 3).obj) := hc3 0 (by omega)
      have c31 : w.cell? ⟨b, off + 6 + 1, none⟩ = some (.int .i64 (vAt t.F 3).n) := hc3 1 (by omega)
      have c40 : w.cell? ⟨b, off + 8, none⟩ = some (.bool (vAt t.F 4).obj) := hc4 0 (by omega)
      have c41 : w.cell? ⟨b, off + 8 + 1, none⟩ = some (.int .i64 (vAt t.F 4).n) := hc4 1 (by omega)
      have E3 : Hid (numB (vAt t.F 3) 0 60 = (!(vAt t.F 3).obj && decide (0 ≤ (vAt t.F 3).n ∧ (vAt t.F 3).n ≤ 60))) := rfl
      have E4 : Hid (numB (vAt t.F 4) 1 3 = (!(vAt t.F 4).obj && decide (1 ≤ (vAt t.F 4).n ∧ (vAt t.F 4).n ≤ 3))) := rfl
      have l5 : (5 : Int) ≤ (t.F.length : Int) := by omega
      clear hc3 hc4 HR f5 f1
      generalize vAt t.F 3 = v3 at *
      generalize vAt t.F 4 = v4 at *
      generalize t.F.length = n at *
      go_enter Tryz.func83, Tryz.ntmps83
      go_wp2
      refine wp_name (fun W1 hW => ?_)
      have B1 := Blk.new' hW
      have X1 := (Ext.refl w).alloc' hW
      have c30 := (X1.below.cell (p := ⟨b, off + 6, none⟩) hb).trans c30
      have c31 := (X1.below.cell (p := ⟨b, off + 6 + 1, none⟩) hb).trans c31
      have c40 := (X1.below.cell (p := ⟨b, off + 8, none⟩) hb).trans c40
      have c41 := (X1.below.cell (p := ⟨b, off + 8 + 1, none⟩) hb).trans c41
      have c1 := B1.cell 4
      have hz : W1.heap.size = w.heap.size + 1 := by rw [hW]; simp
      have hs := B1.lt
      have hb2 : b < W1.heap.size := by omega
      have i3 : (3 : Int) < (n : Int) := by omega
      have i4 : (4 : Int) < (n : Int) := by omega
      clear hW B1 hz
      generalize w.heap.size = q at *
      have n1 := World.new_ne _ _ c30
      have n2 := World.new_ne _ _ c40
      have n3 := World.new_ne _ _ c1
      go_region_held3 (fun w' => w'.cell? ⟨b, off + 6, none⟩ = some (.bool v3.obj) ∧ w'.cell? ⟨b, off + 6 + 1, none⟩ = some (.int .i64 v3.n) ∧ w'.cell? ⟨b, off + 8, none⟩ = some (.bool v4.obj) ∧ w'.cell? ⟨b, off + 8 + 1, none⟩ = some (.int .i64 v4.n) ∧ w'.cell? ⟨q, 4, none⟩ = some (.slice (some ⟨b, off, none⟩) n c)) (go_keep) (fail)
      all_goals go_wp2
      all_goals
        go_ret
        refine ⟨ret_bool ?_, ((X1.alloc _).alloc _).drew⟩
        rw [E.out, E3.out, E4.out]
        simp [*] <;> omega
    · have E2 : Hid (isClsB t = false) := Lib.hid (by rw [E.out, decide_eq_false f5]; rfl)
      have d5 : decide ((t.F.length : Int) < 5) = true := decide_eq_true (by omega)
      clear HR f1 f5 E
      generalize t.F.length = n at *
      go_enter Tryz.func83, Tryz.ntmps83
      go_wp2
      go_ret
      exact ⟨ret_bool (by rw [E2.out]), (Ext.refl _).alloc _⟩
  · have E2 : Hid (isClsB t = false) := Lib.hid (by rw [E.out, decide_eq_false f1]; rfl)
    have d1 : (t.fmt != 1) = true := by simpa using f1
    clear HR f1 E
    go_enter Tryz.func83, Tryz.ntmps83
    go_wp2
    go_ret
    exact ⟨ret_bool (by rw [E2.out]), (Ext.refl _).alloc _⟩
end
end Go.Proofs.YtjpalcejmloocaaGreat.World
