/-
  Contracts of thing.Op: primitives without arguments; instances of a size.
-/
import Derived.Test.YtnhijjcplnomgaaGreatPrim
namespace Go.Proofs.YtnhijjcplnomgaaGreat.World
open Go.RowKit Go.Proofs.YtnhijjcplnomgaaGreat.Plain
set_option linter.unusedVariables false
attribute [local go_sem ↓] Go.wp_at_zero Go.wp_at_succ
section
variable {w w' w2 : World} {F F' F2 : Nat → Prop} {m : Nat} {S S' P : MS} {X : MX}
set_option maxRecDepth 100000 in
set_option maxHeartbeats 1000000 in
/-- a number's hash is the number -/
theorem pa22n (w : World) (p : Value) (n : Int) : Calls Tryz.prog 58 #[p, .int .i64 22, .agg #[.bool false, .int .i64 n]] w fun e w' => e = .returned (.tuple #[.agg #[.bool false, .int .i64 n], .bool true]) ∧ Ext w w' := by
  go_enter Tryz.func58, Tryz.ntmps58
  go_wp2_with fail
  refine wp_scope_fwd 0 rfl (fun J hJ => ?_)
  go_wp2_with fail
  refine wp_goto ?_
  refine ⟨rfl, hJ _ _ ?_⟩
  refine wp_name (fun w1 hW => ?_)
  have i1 : Ext w w1 := by rw [hW]; exact ((Ext.refl w).alloc _).alloc _
  have B5 : Blk w1 w.heap.size 40 #[.bool false, .int .i64 n] := by rw [hW]; exact (Blk.new w _ _).alloc _
  have B6 : Blk w1 (w.heap.size + 1) 40 #[.bool false, .int .i64 0] := by rw [hW]; exact Blk.at_ _ _ (by simp)
  obtain ⟨p1, p2, p3⟩ := B5.rules
  obtain ⟨q1, q2, q3⟩ := B6.rules
  clear hW hJ B5 B6
  generalize hg : w.heap.size = g at *
  have hne : g ≠ g + 1 := by omega
  go_wp2_with fail
  rw [Exit.noGoto_ret]
  refine bodyPost_ret (v := .tuple #[.agg #[.bool false, .int .i64 n], .bool true]) (by simp [results, Tryz.results58, go_sem, q1]) rfl ⟨rfl, ?_⟩
  exact (i1.setNew (p := ⟨g + 1, 0, none⟩) (show w.heap.size ≤ g + 1 by omega) _).setNew (p := ⟨g + 1, 1, none⟩) (show w.heap.size ≤ g + 1 by omega) _
set_option maxRecDepth 100000 in
set_option maxHeartbeats 2000000 in
/-- a primitive without arguments -/
theorem pop0 (h : M w F m S) (n : Int) (hn : n = 21 ∨ n = 22 ∨ n = 23 ∨ n = 26) (so : Bool) (sn : Int) (hs : so = true ∨ n = 22) (hm : S.may ⟨so, sn⟩ = true) (ro rk : Bool) (rn : Int)
    (hA : ∀ W, Ext w W → Calls Tryz.prog 58 #[.pointer (some ⟨m, 0, none⟩), .int .i64 n, .agg #[.bool so, .int .i64 sn]] W fun e w' => e = .returned (.tuple #[.agg #[.bool ro, .int .i64 rn], .bool rk]) ∧ Goes F m P W w') :
    Calls Tryz.prog 27 #[.pointer (some ⟨m, 0, none⟩), .int .i64 n, .agg #[.bool so, .int .i64 sn], .slice none 0 0] w fun e w' => e = .returned (.tuple #[.agg #[.bool ro, .int .i64 rn], .bool rk]) ∧ Goes F m P w w' := by
  have CM := Lib.hid (fun W [x : IsExt w W] => mmay (h.ext x.out) ⟨so, sn⟩)
  have CA := Lib.hid (fun W [x : IsExt w W] => hA W x.out)
  have CR := Lib.hid (fun W => pargs W n (by omega))
  rw [show argsN n = 0 from by unfold argsN; rw [if_neg (by omega), if_neg (by omega)]] at CR
  rw [hm] at CM
  have HF := Lib.hid h.lt
  unfold val at CM
  clear h hm hA
  have hn2 : n = 26 → so = true := fun e => by rcases hs with a | a; exact a; omega
  have d31 : (n == 31) = false := beq_eq_false_iff_ne.2 (by omega)
  have hcase : so = true ∨ (so = false ∧ (n == 26) = false) := by
    cases so
    · exact .inr ⟨rfl, beq_eq_false_iff_ne.2 (fun e => by have := hn2 e; cases this)⟩
    · exact .inl rfl
  clear hs hn2 hn
  go_enter Tryz.func27, Tryz.ntmps27
  go_wp2_with fail
  go_step3
  go_wp2_with (go_at_call 56; refine (CR.out _).mono ?_; rintro e w' ⟨rfl, rfl⟩)
  refine (CM.out _).mono ?_
  rintro e w1 ⟨rfl, x1⟩
  have B6 := Lib.hid (((Blk.new w 40 #[.bool so, .int .i64 sn]).alloc (.cells #[.bool false, .int .i64 0] 40)).ext x1)
  have B8 := Lib.hid ((Blk.at_ (w := w.alloc (.cells #[.bool so, .int .i64 sn] 40)) (g := w.heap.size + 1) 40 #[.bool false, .int .i64 0] (by simp)).ext x1)
  have i1 : IsExt w w1 := ⟨(((Ext.refl w).alloc _).alloc _).trans x1⟩
  obtain ⟨p1, p2, p3⟩ := B6.out.rules
  clear x1 CM CR
  generalize hg : w.heap.size = g at *
  go_wp2_with fail
  go_loopw [30] (fun jv wr => jv = .int .i64 0 ∧ wr = w1) (fun _ _ => 0)
  case atStart => exact ⟨rfl, rfl⟩
  case round =>
    obtain ⟨rfl, rfl⟩ := hrel
    rcases hcase with rfl | ⟨rfl, d26⟩
    all_goals
      go_wp2_with fail
      refine (CA.out _).mono ?_
      rintro e w2 ⟨rfl, F1, m1, v1⟩
      obtain ⟨b8, nF⟩ := v1.blk B8.out (fun hf => by have := HF.out _ hf; omega)
      have V1 : Hid (Mov F F1 w w2) := Lib.hid ((Mov.of_ext i1.out).trans v1)
      have M1 := Lib.hid m1
      have NF := Lib.hid nF
      obtain ⟨q1, q2, q3⟩ := b8.rules
      clear v1 m1 CA nF b8 p1 p2 p3 B6 B8
      go_wp2_with fail
      rw [Exit.noGoto_ret]
      refine bodyPost_ret (v := .tuple #[.agg #[.bool ro, .int .i64 rn], .bool rk]) (by simp [results, Tryz.results27, go_sem, q1]) rfl ⟨rfl, F1, ?_, ?_⟩
      · exact M1.out.far (((Keep.refl (· = g + 1) w2).setCell (p := ⟨g + 1, 0, none⟩) rfl _).setCell (p := ⟨g + 1, 1, none⟩) rfl _) (fun j e hf => NF.out (e ▸ hf))
      · exact ⟨(V1.out.keep.setNew (p := ⟨g + 1, 0, none⟩) (show w.heap.size ≤ g + 1 by omega) _).setNew (p := ⟨g + 1, 1, none⟩) (show w.heap.size ≤ g + 1 by omega) _, V1.out.new⟩
set_option maxRecDepth 100000 in
set_option maxHeartbeats 2000000 in
/-- a primitive without arguments that turns nothing -/
theorem pop0r (h : M w F m S) (n : Int) (hn : n = 21 ∨ n = 22 ∨ n = 23 ∨ n = 26) (so : Bool) (sn : Int) (hs : so = true ∨ n = 22) (hm : S.may ⟨so, sn⟩ = true) (ro rk : Bool) (rn : Int)
    (hA : ∀ W, Ext w W → Calls Tryz.prog 58 #[.pointer (some ⟨m, 0, none⟩), .int .i64 n, .agg #[.bool so, .int .i64 sn]] W fun e w' => e = .returned (.tuple #[.agg #[.bool ro, .int .i64 rn], .bool rk]) ∧ Ext W w') :
    Calls Tryz.prog 27 #[.pointer (some ⟨m, 0, none⟩), .int .i64 n, .agg #[.bool so, .int .i64 sn], .slice none 0 0] w fun e w' => e = .returned (.tuple #[.agg #[.bool ro, .int .i64 rn], .bool rk]) ∧ Ext w w' := by
  have CM := Lib.hid (fun W [x : IsExt w W] => mmay (h.ext x.out) ⟨so, sn⟩)
  have CA := Lib.hid (fun W [x : IsExt w W] => hA W x.out)
  have CR := Lib.hid (fun W => pargs W n (by omega))
  rw [show argsN n = 0 from by unfold argsN; rw [if_neg (by omega), if_neg (by omega)]] at CR
  rw [hm] at CM
  unfold val at CM
  clear h hm hA
  have hn2 : n = 26 → so = true := fun e => by rcases hs with a | a; exact a; omega
  have d31 : (n == 31) = false := beq_eq_false_iff_ne.2 (by omega)
  have hcase : so = true ∨ (so = false ∧ (n == 26) = false) := by
    cases so
    · exact .inr ⟨rfl, beq_eq_false_iff_ne.2 (fun e => by have := hn2 e; cases this)⟩
    · exact .inl rfl
  clear hs hn2 hn
  go_enter Tryz.func27, Tryz.ntmps27
  go_wp2_with fail
  go_step3
  go_wp2_with (go_at_call 56; refine (CR.out _).mono ?_; rintro e w' ⟨rfl, rfl⟩)
  refine (CM.out _).mono ?_
  rintro e w1 ⟨rfl, x1⟩
  have B6 := Lib.hid (((Blk.new w 40 #[.bool so, .int .i64 sn]).alloc (.cells #[.bool false, .int .i64 0] 40)).ext x1)
  have B8 := Lib.hid ((Blk.at_ (w := w.alloc (.cells #[.bool so, .int .i64 sn] 40)) (g := w.heap.size + 1) 40 #[.bool false, .int .i64 0] (by simp)).ext x1)
  have i1 : IsExt w w1 := ⟨(((Ext.refl w).alloc _).alloc _).trans x1⟩
  obtain ⟨p1, p2, p3⟩ := B6.out.rules
  clear x1 CM CR
  generalize hg : w.heap.size = g at *
  go_wp2_with fail
  go_loopw [30] (fun jv wr => jv = .int .i64 0 ∧ wr = w1) (fun _ _ => 0)
  case atStart => exact ⟨rfl, rfl⟩
  case round =>
    obtain ⟨rfl, rfl⟩ := hrel
    rcases hcase with rfl | ⟨rfl, d26⟩
    all_goals
      go_wp2_with fail
      refine (CA.out _).mono ?_
      rintro e w2 ⟨rfl, x2⟩
      have b8 := B8.out.ext x2
      have X2 := Lib.hid (i1.out.trans x2)
      obtain ⟨q1, q2, q3⟩ := b8.rules
      clear x2 CA b8 p1 p2 p3 B6 B8
      go_wp2_with fail
      rw [Exit.noGoto_ret]
      refine bodyPost_ret (v := .tuple #[.agg #[.bool ro, .int .i64 rn], .bool rk]) (by simp [results, Tryz.results27, go_sem, q1]) rfl ⟨rfl, ?_⟩
      exact (X2.out.setNew (p := ⟨g + 1, 0, none⟩) (show w.heap.size ≤ g + 1 by omega) _).setNew (p := ⟨g + 1, 1, none⟩) (show w.heap.size ≤ g + 1 by omega) _
set_option maxRecDepth 100000 in
set_option maxHeartbeats 2000000 in
/-- an instance, so many more -/
theorem pop27 (h : M w F m S) (hp : S.phase ≠ 1) (c k : Int) (hm : S.may ⟨true, c⟩ = true) (hk : S.may ⟨false, k⟩ = true) (gs cap : Nat) (hb : Blk w gs 40 #[.bool false, .int .i64 k]) :
    Calls Tryz.prog 27 #[.pointer (some ⟨m, 0, none⟩), .int .i64 27, .agg #[.bool true, .int .i64 c], .slice (some ⟨gs, 0, none⟩) 1 cap] w fun e w' => e = .returned (.tuple #[.agg #[.bool (S.makeOK c k), .int .i64 (S.makeId c k)], .bool (S.makeOK c k)]) ∧ Goes F m (S.make c k) w w' := by
  have CM := Lib.hid (fun W [x : IsExt w W] => mmay (h.ext x.out) ⟨true, c⟩)
  have CV := Lib.hid (fun W [x : IsExt w W] => mmay (h.ext x.out) ⟨false, k⟩)
  have CK := Lib.hid (fun W [x : IsExt w W] => mmake (h.ext x.out) hp c k)
  have CR := Lib.hid (fun W => pargs W 27 (by omega))
  have CT := Lib.hid (fun W k ok => pplace W k ok)
  have E : Hid ((if S.makeOK c k = true then S.makeId c k else 0) = S.makeId c k) := Lib.hid (by unfold MS.makeId; split <;> rfl)
  rw [show argsN 27 = 1 from by decide] at CR
  rw [hm] at CM
  rw [hk] at CV
  have HF := Lib.hid h.lt
  have HB := Lib.hid hb
  unfold val at CM CV
  clear h hm hk hp hb
  generalize S.makeOK c k = ok at *
  generalize S.makeId c k = id at *
  generalize S.make c k = P at *
  go_enter Tryz.func27, Tryz.ntmps27
  go_wp2_with fail
  go_step3
  go_wp2_with (go_at_call 56; refine (CR.out _).mono ?_; rintro e w' ⟨rfl, rfl⟩)
  refine (CM.out _).mono ?_
  rintro e w1 ⟨rfl, x1⟩
  have B6 := Lib.hid (((Blk.new w 40 #[.bool true, .int .i64 c]).alloc (.cells #[.bool false, .int .i64 0] 40)).ext x1)
  have B8 := Lib.hid ((Blk.at_ (w := w.alloc (.cells #[.bool true, .int .i64 c] 40)) (g := w.heap.size + 1) 40 #[.bool false, .int .i64 0] (by simp)).ext x1)
  have i1 : IsExt w w1 := ⟨(((Ext.refl w).alloc _).alloc _).trans x1⟩
  have hgs := HB.out.lt
  clear x1 CM CR
  generalize hg : w.heap.size = g at *
  go_wp2_with fail
  go_loopw [30] (fun jv wr => ∃ j : Nat, j ≤ 1 ∧ jv = .int .i64 j ∧ Ext w1 wr) (fun jv _ => 1 - (intOf jv).toNat)
  case atStart => exact ⟨0, by omega, rfl, Ext.refl _⟩
  case round =>
    obtain ⟨j, hj, rfl, xr⟩ := hrel
    have ir : IsExt w wr := ⟨i1.out.trans xr⟩
    have XR := Lib.hid xr
    obtain ⟨s1, s2, s3⟩ := (HB.out.ext ir.out).rules
    clear xr
    rcases (show j = 0 ∨ j = 1 by omega) with rfl | rfl
    · go_wp2_with fail
      refine (CV.out _).mono ?_
      rintro e w2 ⟨rfl, x2⟩
      have X2 := Lib.hid ((XR.out.alloc _).trans x2)
      clear x2 CV XR ir
      go_wp2_with fail
      go_roundw
      case rel => exact ⟨1, by omega, by go_num, X2.out⟩
      case measure => simp [intOf]
    · obtain ⟨p1, p2, p3⟩ := (B6.out.ext XR.out).rules
      have B8r := Lib.hid (B8.out.ext XR.out)
      clear CV i1 B8
      go_upto_region 22 with (fail)
      refine wp_name (fun w3 hW => ?_)
      have x3 : Ext wr w3 := by rw [hW]; exact is_ext _ _
      have i3 : IsExt w w3 := ⟨ir.out.trans x3⟩
      have b12 : Blk w3 wr.heap.size 40 #[.bool false, .int .i64 k] := by rw [hW]; exact Blk.new _ _ _
      have B8q := Lib.hid (B8r.out.ext x3)
      obtain ⟨p1, p2, p3⟩ := (B6.out.ext (XR.out.trans x3)).rules
      obtain ⟨r1, r2, r3⟩ := b12.rules
      clear hW x3 b12 B8r XR ir s1 s2 s3 B6
      generalize wr.heap.size = g12 at *
      go_wp2_with fail
      refine (CK.out _).mono ?_
      rintro e w4 ⟨rfl, F1, m1, v1⟩
      obtain ⟨b8, nF⟩ := v1.blk B8q.out (fun hf => by have := HF.out _ hf; omega)
      have V1 : Hid (Mov F F1 w w4) := Lib.hid ((Mov.of_ext i3.out).trans v1)
      have M1 := Lib.hid m1
      have NF := Lib.hid nF
      clear v1 m1 CK nF i3 B8q p1 p2 p3 r1 r2 r3
      go_wp2_with fail
      refine (CT.out _ _ _).mono ?_
      rintro e w5 ⟨rfl, x5⟩
      rw [E.out]
      obtain ⟨q1, q2, q3⟩ := (b8.ext x5).rules
      have M2 := Lib.hid (M1.out.ext x5)
      have V2 := Lib.hid (V1.out.ext x5)
      clear x5 CT b8 M1 V1
      go_wp2_with fail
      rw [Exit.noGoto_ret]
      refine bodyPost_ret (v := .tuple #[.agg #[.bool ok, .int .i64 id], .bool ok]) (by simp [results, Tryz.results27, go_sem, q1]) rfl ⟨rfl, F1, ?_, ?_⟩
      · exact M2.out.far (((Keep.refl (· = g + 1) w5).setCell (p := ⟨g + 1, 0, none⟩) rfl _).setCell (p := ⟨g + 1, 1, none⟩) rfl _) (fun j e hf => NF.out (e ▸ hf))
      · exact ⟨(V2.out.keep.setNew (p := ⟨g + 1, 0, none⟩) (show w.heap.size ≤ g + 1 by omega) _).setNew (p := ⟨g + 1, 1, none⟩) (show w.heap.size ≤ g + 1 by omega) _, V2.out.new⟩
end
end Go.Proofs.YtnhijjcplnomgaaGreat.World
