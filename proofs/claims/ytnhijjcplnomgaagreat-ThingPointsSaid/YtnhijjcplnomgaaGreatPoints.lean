/-
  Contracts of package thing: points, their norms; thing.Op of these.
-/
import Derived.Test.YtnhijjcplnomgaaGreatPts
import Derived.Test.YtnhijjcplnomgaaGreatPoint
import Derived.Test.YtnhijjcplnomgaaGreatPlaneN
import Derived.Test.YtnhijjcplnomgaaGreatWord
namespace Go.Proofs.YtnhijjcplnomgaaGreat.World
open Go.RowKit Go.Proofs.YtnhijjcplnomgaaGreat.Plain
set_option linter.unusedVariables false
attribute [local go_sem ↓] Go.wp_at_zero Go.wp_at_succ
section
variable {w w' w2 : World} {F F' F2 : Nat → Prop} {m : Nat} {S S' P S3 : MS} {X : MX}
theorem Pt.calls (h : M w F m S) {i px py : Int} (p : MS.Pt S i (num px) (num py)) : Calls Tryz.prog 99 #[.pointer (some ⟨m, 0, none⟩), .agg #[.bool true, .int .i64 i]] w fun e w' => e = .returned (.tuple #[.int .i64 px, .int .i64 py, .bool true]) ∧ Ext w w' :=
  ppoint h i px py p.cls p.fmt p.size p.g0 p.g1
set_option maxRecDepth 100000 in
set_option maxHeartbeats 2000000 in
/-- a point's norm -/
theorem pa38 (h : M w F m S) {i px py : Int} (p : MS.Pt S i (num px) (num py)) (h1 : Plane.inB px = true) (h2 : Plane.inB py = true) {z : Int} (hz : px * px + py * py = z) (hf : fitsB z = true) : Calls Tryz.prog 58 #[.pointer (some ⟨m, 0, none⟩), .int .i64 38, .agg #[.bool true, .int .i64 i]] w fun e w' => e = .returned (.tuple #[.agg #[.bool false, .int .i64 z], .bool true]) ∧ Ext w w' := by
  have CP := Lib.hid (fun W [x : IsExt w W] => Pt.calls (h.ext x.out) p)
  have CN := Lib.hid (fun W => hz ▸ Plane.norm_y W px py h1 h2)
  have CF := Lib.hid (fun W => hf ▸ Word.fits z W)
  have CT := Lib.hid (fun W k => ptold W k true)
  clear h p h1 h2 hz hf
  go_enter Tryz.func58, Tryz.ntmps58
  go_wp2_with fail
  go_step3
  go_wp2_with fail
  refine (CP.out _).mono ?_
  rintro e w1 ⟨rfl, x1⟩
  have B6 := (Blk.at_ (w := w.alloc (.cells #[.bool true, .int .i64 i] 40)) (g := w.heap.size + 1) 40 #[.bool false, .int .i64 0] (by simp)).ext x1
  have i1 : IsExt w w1 := ⟨(((Ext.refl w).alloc _).alloc _).trans x1⟩
  clear x1 CP
  go_wp2_with (first | (go_at_call 100; refine (CN.out _).mono ?_; rintro e w' ⟨rfl, rfl⟩) | (go_at_call 88; refine (CF.out _).mono ?_; rintro e w' ⟨rfl, rfl⟩))
  refine (CT.out _ _).mono ?_
  rintro e w2 ⟨rfl, x2⟩
  obtain ⟨q1, q2, q3⟩ := (B6.ext x2).rules
  have X2 := Lib.hid (i1.out.trans x2)
  clear x2 CT i1 B6 CN CF
  go_wp2_with fail
  rw [Exit.noGoto_ret]
  refine bodyPost_ret (v := .tuple #[.agg #[.bool false, .int .i64 z], .bool true]) (by simp [results, Tryz.results58, go_sem, q1]) rfl ⟨rfl, ?_⟩
  exact (X2.out.setNew (p := ⟨w.heap.size + 1, 0, none⟩) (show w.heap.size ≤ w.heap.size + 1 by omega) _).setNew (p := ⟨w.heap.size + 1, 1, none⟩) (show w.heap.size ≤ w.heap.size + 1 by omega) _
set_option maxRecDepth 100000 in
set_option maxHeartbeats 2000000 in
/-- a new point of two -/
theorem ppoints (h : M w F m S) {id x y : Int} (st : MS.Step S id x y S3) {i j ax ay bx by_ : Int} (pi : MS.Pt S i (num ax) (num ay)) (pj : MS.Pt S j (num bx) (num by_)) (op : Int)
    (hP : ∀ W, Calls Tryz.prog 108 #[.int .i64 op, .int .i64 ax, .int .i64 ay, .int .i64 bx, .int .i64 by_] W fun e w' => e = .returned (.tuple #[.int .i64 x, .int .i64 y, .bool true]) ∧ W = w') :
    Calls Tryz.prog 66 #[.pointer (some ⟨m, 0, none⟩), .int .i64 op, .agg #[.bool true, .int .i64 i], .agg #[.bool true, .int .i64 j]] w fun e w' => e = .returned (.tuple #[.agg #[.bool true, .int .i64 id], .bool true]) ∧ Goes F m S3 w w' := by
  obtain ⟨bt, R⟩ := h.rd
  have c0 := Lib.hid R.c0
  have lt := R.lt
  have CI := Lib.hid (fun W [x : IsExt w W] => Pt.calls (h.ext x.out) pi)
  have CJ := Lib.hid (fun W [x : IsExt w W] => Pt.calls (h.ext x.out) pj)
  have CO := Lib.hid hP
  have CS := Lib.hid (fun W k => tspecial (w := W) k (.pointer (some ⟨bt, 0, none⟩)))
  have CM := Lib.hid (fun W [x : IsExt w W] => st.f ▸ st.n ▸ mmade (h.ext x.out) 18)
  have CK := Lib.hid (fun W [x : IsExt w W] => mmake (h.ext x.out) st.p0 18 0)
  rw [st.ok, st.nid] at CK
  have CT := Lib.hid (fun W k => pplace W k true)
  have C0 : Hid (∀ W F', M W F' m (S.make 18 0) → Calls Tryz.prog 29 #[.pointer (some ⟨m, 0, none⟩), .int .i64 id, .int .i64 0, .agg #[.bool false, .int .i64 x]] W fun e w' => e = .returned (.bool true) ∧ M w' F' m ((S.make 18 0).set id 0 (num x)) ∧ Keep F' W w') := Lib.hid (fun W F' hM => by
    have q := mset hM st.p1 id 0 (num x); rw [st.o1] at q; exact q)
  have C1 : Hid (∀ W F', M W F' m ((S.make 18 0).set id 0 (num x)) → Calls Tryz.prog 29 #[.pointer (some ⟨m, 0, none⟩), .int .i64 id, .int .i64 1, .agg #[.bool false, .int .i64 y]] W fun e w' => e = .returned (.bool true) ∧ M w' F' m S3 ∧ Keep F' W w') := Lib.hid (fun W F' hM => by
    have q := mset hM st.p2 id 1 (num y); rw [st.o2, ← st.e] at q; exact q)
  have HF := Lib.hid h.lt
  clear R h st pi pj hP
  generalize (S.make 18 0).set id 0 (num x) = Q2 at *
  generalize S.make 18 0 = Q1 at *
  go_enter Tryz.func66, Tryz.ntmps66
  go_wp2_with fail
  refine (CI.out _).mono ?_
  rintro e w1 ⟨rfl, x1⟩
  have B7 := Lib.hid (((Blk.at_ (w := w.alloc (.cells #[.bool true, .int .i64 i] 40)) (g := w.heap.size + 1) 40 #[.bool true, .int .i64 j] (by simp)).alloc (.cells #[.bool false, .int .i64 0] 40)).ext x1)
  have B8 := Lib.hid ((Blk.at_ (w := (w.alloc (.cells #[.bool true, .int .i64 i] 40)).alloc (.cells #[.bool true, .int .i64 j] 40)) (g := w.heap.size + 2) 40 #[.bool false, .int .i64 0] (by simp)).ext x1)
  have i1 : IsExt w w1 := ⟨((((Ext.refl w).alloc _).alloc _).alloc _).trans x1⟩
  obtain ⟨p1, p2, p3⟩ := B7.out.rules
  have K1 := Lib.hid ((i1.out.below.cell (p := ⟨m, 0, none⟩) lt).trans c0.out)
  have L1 := Lib.hid (Nat.lt_of_lt_of_le lt i1.out.below.size)
  clear x1 CI c0 lt
  generalize hg : w.heap.size = g at *
  go_wp2_with fail
  refine (CJ.out _).mono ?_
  rintro e w2 ⟨rfl, x2⟩
  have i2 : IsExt w w2 := ⟨i1.out.trans x2⟩
  replace B8 := Lib.hid (B8.out.ext x2)
  have k2 := (x2.below.cell (p := ⟨m, 0, none⟩) L1.out).trans K1.out
  have l2 := Nat.lt_of_lt_of_le L1.out x2.below.size
  clear x2 CJ p1 p2 p3 B7 i1
  go_wp2_with (first | (go_at_call 108; refine (CO.out _).mono ?_; rintro e w' ⟨rfl, rfl⟩))
  refine (CS.out _ _).mono ?_
  rintro e w3 ⟨rfl, x3⟩
  have i3 : IsExt w w3 := ⟨i2.out.trans x3⟩
  replace B8 := Lib.hid (B8.out.ext x3)
  clear x3 CS i2 k2 l2 K1 L1
  go_wp2_with fail
  refine (CM.out _).mono ?_
  rintro e w4 ⟨rfl, x4⟩
  have i4 : IsExt w w4 := ⟨i3.out.trans x4⟩
  replace B8 := Lib.hid (B8.out.ext x4)
  clear x4 CM i3
  go_wp2_with fail
  refine (CK.out _).mono ?_
  rintro e w5 ⟨rfl, F1, m1, v1⟩
  obtain ⟨b8, nF⟩ := v1.blk B8.out (fun hf => by have := HF.out _ hf; omega)
  have V1 : Hid (Mov F F1 w w5) := Lib.hid ((Mov.of_ext i4.out).trans v1)
  have M1 := Lib.hid m1
  have NF := Lib.hid nF
  have B8' := Lib.hid b8
  clear v1 m1 CK nF i4 B8 b8 CO
  go_wp2_with fail
  refine (C0.out _ _ M1.out).mono ?_
  rintro e w6 ⟨rfl, m2, k2⟩
  have B8'' := Lib.hid (B8'.out.keep k2 NF.out)
  have V2 : Hid (Mov F F1 w w6) := Lib.hid (V1.out.trans ⟨k2, fun _ h => .inl h⟩)
  have M2 := Lib.hid m2
  clear m2 k2 C0 B8' V1 M1
  go_wp2_with fail
  refine (C1.out _ _ M2.out).mono ?_
  rintro e w7 ⟨rfl, m3, k3⟩
  have B9 := Lib.hid (B8''.out.keep k3 NF.out)
  have V3 : Hid (Mov F F1 w w7) := Lib.hid (V2.out.trans ⟨k3, fun _ h => .inl h⟩)
  have M3 := Lib.hid m3
  clear m3 k3 C1 B8'' V2 M2
  go_wp2_with fail
  refine (CT.out _ _).mono ?_
  rintro e w8 ⟨rfl, x8⟩
  obtain ⟨q1, q2, q3⟩ := (B9.out.ext x8).rules
  have V4 := Lib.hid (V3.out.ext x8)
  have M4 := Lib.hid (M3.out.ext x8)
  clear x8 CT B9 V3 M3
  go_wp2_with fail
  refine bodyPost_ret (v := .tuple #[.agg #[.bool true, .int .i64 id], .bool true]) (by simp [results, Tryz.results66, go_sem, q1]) rfl ⟨rfl, F1, ?_, ?_⟩
  · exact M4.out.far (((Keep.refl (· = g + 2) w8).setCell (p := ⟨g + 2, 0, none⟩) rfl _).setCell (p := ⟨g + 2, 1, none⟩) rfl _) (fun j e hf => NF.out (e ▸ hf))
  · exact ⟨(V4.out.keep.setNew (p := ⟨g + 2, 0, none⟩) (show w.heap.size ≤ g + 2 by omega) _).setNew (p := ⟨g + 2, 1, none⟩) (show w.heap.size ≤ g + 2 by omega) _, V4.out.new⟩
set_option maxRecDepth 100000 in
theorem pargs2 (w : World) (n : Int) (hn : n = 34 ∨ n = 36 ∨ n = 38) : Calls Tryz.prog 56 #[.int .i64 n] w fun e w' => e = .returned (.int .i64 (if n = 38 then 0 else 1)) ∧ w = w' := by
  rcases hn with rfl | rfl | rfl
  all_goals
    go_enter Tryz.func56, Tryz.ntmps56
    go_wp2
    go_ret
    exact ⟨rfl, rfl⟩
set_option maxRecDepth 100000 in
set_option maxHeartbeats 2000000 in
/-- a point's norm -/
theorem pop38 (h : M w F m S) (so : Bool) (sn : Int) (hm : S.may ⟨so, sn⟩ = true) (ro rk : Bool) (rn : Int)
    (hA : ∀ W, Ext w W → Calls Tryz.prog 58 #[.pointer (some ⟨m, 0, none⟩), .int .i64 38, .agg #[.bool so, .int .i64 sn]] W fun e w' => e = .returned (.tuple #[.agg #[.bool ro, .int .i64 rn], .bool rk]) ∧ Ext W w') :
    Calls Tryz.prog 27 #[.pointer (some ⟨m, 0, none⟩), .int .i64 38, .agg #[.bool so, .int .i64 sn], .slice none 0 0] w fun e w' => e = .returned (.tuple #[.agg #[.bool ro, .int .i64 rn], .bool rk]) ∧ Ext w w' := by
  have CM := Lib.hid (fun W [x : IsExt w W] => mmay (h.ext x.out) ⟨so, sn⟩)
  have CA := Lib.hid (fun W [x : IsExt w W] => hA W x.out)
  have CR := Lib.hid (fun W => pargs2 W 38 (by omega))
  rw [show (if (38 : Int) = 38 then (0 : Int) else 1) = 0 from by decide] at CR
  rw [hm] at CM
  unfold val at CM
  clear h hm hA
  go_enter Tryz.func27, Tryz.ntmps27
  go_wp2_with fail
  go_step3
  go_wp2_with (go_at_call 56; refine (CR.out _).mono ?_; rintro e w' ⟨rfl, rfl⟩)
  refine (CM.out _).mono ?_
  rintro e w1 ⟨rfl, x1⟩
  have B6 := Lib.hid (((Blk.new w 40 #[.bool so, .int .i64 sn]).alloc (.cells #[.bool false, .int .i64 0] 40)).ext x1)
  have B8 := Lib.hid ((Blk.at_ (w := w.alloc (.cells #[.bool so, .int .i64 sn] 40)) (g := w.heap.size + 1) 40 #[.bool false, .int .i64 0] (by simp)).ext x1)
  have i1 : IsExt w w1 := ⟨(((Ext.refl w).alloc _).alloc _).trans x1⟩
  obtain ⟨p1, p2, p3⟩ := B6.out.rules
  clear x1 CM CR
  generalize hg : w.heap.size = g at *
  go_wp2_with fail
  go_loopw [30] (fun jv wr => jv = .int .i64 0 ∧ wr = w1) (fun _ _ => 0)
  case atStart => exact ⟨rfl, rfl⟩
  case round =>
    obtain ⟨rfl, rfl⟩ := hrel
    cases so
    all_goals
      go_wp2_with fail
      refine (CA.out _).mono ?_
      rintro e w2 ⟨rfl, x2⟩
      have b8 := B8.out.ext x2
      have X2 := Lib.hid (i1.out.trans x2)
      obtain ⟨q1, q2, q3⟩ := b8.rules
      clear x2 CA b8 p1 p2 p3 B6 B8
      go_wp2_with fail
      rw [Exit.noGoto_ret]
      refine bodyPost_ret (v := .tuple #[.agg #[.bool ro, .int .i64 rn], .bool rk]) (by simp [results, Tryz.results27, go_sem, q1]) rfl ⟨rfl, ?_⟩
      exact (X2.out.setNew (p := ⟨g + 1, 0, none⟩) (show w.heap.size ≤ g + 1 by omega) _).setNew (p := ⟨g + 1, 1, none⟩) (show w.heap.size ≤ g + 1 by omega) _
set_option maxRecDepth 100000 in
set_option maxHeartbeats 4000000 in
/-- a new point of two points -/
theorem pop34 (h : M w F m S) (n op : Int) (hn : (n = 34 ∧ op = 1) ∨ (n = 36 ∧ op = 3)) (c k : Int) (hm : S.may ⟨true, c⟩ = true) (hk : S.may ⟨true, k⟩ = true) (gs cap : Nat) (hb : Blk w gs 40 #[.bool true, .int .i64 k]) (id : Int)
    (hA : ∀ W, Ext w W → Calls Tryz.prog 66 #[.pointer (some ⟨m, 0, none⟩), .int .i64 op, .agg #[.bool true, .int .i64 c], .agg #[.bool true, .int .i64 k]] W fun e w' => e = .returned (.tuple #[.agg #[.bool true, .int .i64 id], .bool true]) ∧ Goes F m P W w') :
    Calls Tryz.prog 27 #[.pointer (some ⟨m, 0, none⟩), .int .i64 n, .agg #[.bool true, .int .i64 c], .slice (some ⟨gs, 0, none⟩) 1 cap] w fun e w' => e = .returned (.tuple #[.agg #[.bool true, .int .i64 id], .bool true]) ∧ Goes F m P w w' := by
  have CM := Lib.hid (fun W [x : IsExt w W] => mmay (h.ext x.out) ⟨true, c⟩)
  have CV := Lib.hid (fun W [x : IsExt w W] => mmay (h.ext x.out) ⟨true, k⟩)
  have CK := Lib.hid (fun W [x : IsExt w W] => hA W x.out)
  have CR := Lib.hid (fun W => pargs2 W n (by omega))
  rw [show (if n = 38 then (0 : Int) else 1) = 1 from if_neg (by omega)] at CR
  rw [hm] at CM
  rw [hk] at CV
  have HF := Lib.hid h.lt
  have HB := Lib.hid hb
  unfold val at CM CV
  clear h hm hk hA hb
  rcases hn with ⟨rfl, rfl⟩ | ⟨rfl, rfl⟩
  all_goals
    go_enter Tryz.func27, Tryz.ntmps27
    go_wp2_with fail
    go_step3
    go_wp2_with (go_at_call 56; refine (CR.out _).mono ?_; rintro e w' ⟨rfl, rfl⟩)
    refine (CM.out _).mono ?_
    rintro e w1 ⟨rfl, x1⟩
    have B6 := Lib.hid (((Blk.new w 40 #[.bool true, .int .i64 c]).alloc (.cells #[.bool false, .int .i64 0] 40)).ext x1)
    have B8 := Lib.hid ((Blk.at_ (w := w.alloc (.cells #[.bool true, .int .i64 c] 40)) (g := w.heap.size + 1) 40 #[.bool false, .int .i64 0] (by simp)).ext x1)
    have i1 : IsExt w w1 := ⟨(((Ext.refl w).alloc _).alloc _).trans x1⟩
    have hgs := HB.out.lt
    clear x1 CM CR
    generalize hg : w.heap.size = g at *
    go_wp2_with fail
    go_loopw [30] (fun jv wr => ∃ j : Nat, j ≤ 1 ∧ jv = .int .i64 j ∧ Ext w1 wr) (fun jv _ => 1 - (intOf jv).toNat)
    case atStart => exact ⟨0, by omega, rfl, Ext.refl _⟩
    case round =>
      obtain ⟨j, hj, rfl, xr⟩ := hrel
      have ir : IsExt w wr := ⟨i1.out.trans xr⟩
      have XR := Lib.hid xr
      obtain ⟨s1, s2, s3⟩ := (HB.out.ext ir.out).rules
      clear xr
      rcases (show j = 0 ∨ j = 1 by omega) with rfl | rfl
      · go_wp2_with fail
        refine (CV.out _).mono ?_
        rintro e w2 ⟨rfl, x2⟩
        have X2 := Lib.hid ((XR.out.alloc _).trans x2)
        clear x2 CV XR ir
        go_wp2_with fail
        go_roundw
        case rel => exact ⟨1, by omega, by go_num, X2.out⟩
        case measure => simp [intOf]
      · obtain ⟨p1, p2, p3⟩ := (B6.out.ext XR.out).rules
        have B8r := Lib.hid (B8.out.ext XR.out)
        clear CV i1 B8
        go_upto_region 34 with (fail)
        refine wp_name (fun w3 hW => ?_)
        have x3 : Ext wr w3 := by rw [hW]; exact is_ext _ _
        have i3 : IsExt w w3 := ⟨ir.out.trans x3⟩
        have b12 : Blk w3 wr.heap.size 40 #[.bool true, .int .i64 k] := by rw [hW]; exact Blk.new _ _ _
        have B8q := Lib.hid (B8r.out.ext x3)
        obtain ⟨p1, p2, p3⟩ := (B6.out.ext (XR.out.trans x3)).rules
        obtain ⟨r1, r2, r3⟩ := b12.rules
        clear hW x3 b12 B8r XR ir s1 s2 s3 B6
        generalize wr.heap.size = g12 at *
        go_wp2_with fail
        refine (CK.out _).mono ?_
        rintro e w4 ⟨rfl, F1, m1, v1⟩
        obtain ⟨b8, nF⟩ := v1.blk B8q.out (fun hf => by have := HF.out _ hf; omega)
        obtain ⟨q1, q2, q3⟩ := b8.rules
        have V2 : Hid (Mov F F1 w w4) := Lib.hid ((Mov.of_ext i3.out).trans v1)
        have M2 := Lib.hid m1
        have NF := Lib.hid nF
        clear v1 m1 CK nF i3 B8q p1 p2 p3 r1 r2 r3 b8
        go_wp2_with fail
        rw [Exit.noGoto_ret]
        refine bodyPost_ret (v := .tuple #[.agg #[.bool true, .int .i64 id], .bool true]) (by simp [results, Tryz.results27, go_sem, q1]) rfl ⟨rfl, F1, ?_, ?_⟩
        · exact M2.out.far (((Keep.refl (· = g + 1) w4).setCell (p := ⟨g + 1, 0, none⟩) rfl _).setCell (p := ⟨g + 1, 1, none⟩) rfl _) (fun j e hf => NF.out (e ▸ hf))
        · exact ⟨(V2.out.keep.setNew (p := ⟨g + 1, 0, none⟩) (show w.heap.size ≤ g + 1 by omega) _).setNew (p := ⟨g + 1, 1, none⟩) (show w.heap.size ≤ g + 1 by omega) _, V2.out.new⟩
end
end Go.Proofs.YtnhijjcplnomgaaGreat.World
