/-
  Contracts of package thing (chapter 18): told, place, Args, alone.
-/
import Derived.Test.YtnhijjcplnomgaaGreatSetup
import Derived.WalkMore
import Derived.ScopeJumps
import Derived.Deep.RegionHeld3
namespace Go.Proofs.YtnhijjcplnomgaaGreat.World
open Go.RowKit Go.Proofs.YtnhijjcplnomgaaGreat.Plain
set_option linter.unusedVariables false
attribute [local go_sem ↓] Go.wp_at_zero Go.wp_at_succ
/-- a scope whose gotos lead forward alone -/
theorem wp_scope_fwd {P : Program} {a : Act} {w : World} {Q : Exit → Act → World → Prop} {c rest : Code} (l : Nat) (hf : findLabel c l = some rest)
    (h : ∀ J : Act → World → Prop, (∀ a w, rest.wp P (Exit.noGoto Q) a w → J a w) → c.wp P (Exit.jump l J Q) a w) : (Code.scope c).wp P Q a w :=
  wp_scope_jumps l (fun a w => rest.wp P (Exit.noGoto Q) a w) (fun _ _ => 0) hf (h _ (fun _ _ h => h)) (fun a w h => wp_mono h (fun e a' w' h' => by
    cases e <;> first | exact h' | exact h'.elim))
section
variable {w w' w2 : World} {F F' F2 : Nat → Prop} {m : Nat} {S S' : MS} {X : MX}
set_option maxRecDepth 100000 in
theorem ptold (w : World) (n : Int) (ok : Bool) : Calls Tryz.prog 94 #[.int .i64 n, .bool ok] w fun e w' => e = .returned (.tuple #[.agg #[.bool false, .int .i64 (if ok = true then n else 0)], .bool ok]) ∧ Ext w w' := by
  have B := Blk.new w 40 #[.bool false, .int .i64 0]
  cases ok
  all_goals
    go_enter Tryz.func94, Tryz.ntmps94
    go_wp2
  · exact bodyPost_ret (v := .tuple #[.agg #[.bool false, .int .i64 0], .bool false]) (by simp [results, Tryz.results94, go_sem]) rfl ⟨rfl, (Ext.refl _).alloc _⟩
  · exact bodyPost_ret (v := .tuple #[.agg #[.bool false, .int .i64 n], .bool true]) (by simp [results, Tryz.results94, go_sem]) rfl ⟨rfl, (Ext.refl _).alloc _⟩
set_option maxRecDepth 100000 in
theorem pplace (w : World) (n : Int) (ok : Bool) : Calls Tryz.prog 63 #[.int .i64 n, .bool ok] w fun e w' => e = .returned (.tuple #[.agg #[.bool ok, .int .i64 (if ok = true then n else 0)], .bool ok]) ∧ Ext w w' := by
  cases ok
  all_goals
    go_enter Tryz.func63, Tryz.ntmps63
    go_wp2
  · exact bodyPost_ret (v := .tuple #[.agg #[.bool false, .int .i64 0], .bool false]) (by simp [results, Tryz.results63, go_sem]) rfl ⟨rfl, (Ext.refl _).alloc _⟩
  · exact bodyPost_ret (v := .tuple #[.agg #[.bool true, .int .i64 n], .bool true]) (by simp [results, Tryz.results63, go_sem]) rfl ⟨rfl, (Ext.refl _).alloc _⟩
def argsN (n : Int) : Int := if n = 25 then 2 else if n = 24 ∨ n = 27 ∨ n = 20 then 1 else 0
set_option maxRecDepth 100000 in
theorem pargs (w : World) (n : Int) (hn : n = 21 ∨ n = 22 ∨ n = 23 ∨ n = 24 ∨ n = 25 ∨ n = 26 ∨ n = 27) : Calls Tryz.prog 56 #[.int .i64 n] w fun e w' => e = .returned (.int .i64 (argsN n)) ∧ w = w' := by
  rcases hn with rfl | rfl | rfl | rfl | rfl | rfl | rfl
  all_goals
    go_enter Tryz.func56, Tryz.ntmps56
    go_wp2
    go_ret
    exact ⟨rfl, rfl⟩
set_option maxRecDepth 100000 in
set_option maxHeartbeats 1000000 in
/-- a thing's hash -/
theorem pa22 (h : M w F m S) (n : Int) : Calls Tryz.prog 58 #[.pointer (some ⟨m, 0, none⟩), .int .i64 22, .agg #[.bool true, .int .i64 n]] w fun e w' => e = .returned (.tuple #[.agg #[.bool false, .int .i64 (S.hash n)], .bool true]) ∧ Ext w w' := by
  obtain ⟨X, hX⟩ := h
  obtain ⟨z1, _, ltm⟩ := hX.bm.rules
  have c0 : w.cell? ⟨m, 0, none⟩ = some (.iface 88 (.pointer (some ⟨X.bt, 0, none⟩))) := z1 0
  have C0 := Lib.hid c0
  have wf := hX.wf
  have CA := Lib.hid (fun W [x : IsExt w W] => thash (hX.ext x.out).ts wf n)
  have CT := Lib.hid (fun W k => ptold W k true)
  clear hX z1 wf
  generalize S.hash n = hs at *
  generalize X.bt = bt at *
  go_enter Tryz.func58, Tryz.ntmps58
  go_wp2_with fail
  go_step3
  go_upto_region 6 with (fail)
  refine wp_name (fun w1 hW => ?_)
  have i1 : IsExt w w1 := ⟨by rw [hW]; exact ((Ext.refl w).alloc _).alloc _⟩
  have B5 : Hid (Blk w1 w.heap.size 40 #[.bool true, .int .i64 n]) := Lib.hid (by rw [hW]; exact (Blk.new w _ _).alloc _)
  have B6 : Hid (Blk w1 (w.heap.size + 1) 40 #[.bool false, .int .i64 0]) := Lib.hid (by rw [hW]; exact Blk.at_ _ _ (by simp))
  have k1 := (i1.out.below.cell (p := ⟨m, 0, none⟩) ltm).trans C0.out
  have l1 := Nat.lt_of_lt_of_le ltm i1.out.below.size
  obtain ⟨p1, p2, p3⟩ := B5.out.rules
  obtain ⟨q1, q2, q3⟩ := B6.out.rules
  have s0 := p1 0
  have s1 := p1 1
  have ii1 : IsExt w1 w1 := ⟨Ext.refl _⟩
  clear hW c0
  generalize hg : w.heap.size = g at *
  have hne : g ≠ g + 1 := by omega
  have hne' : g + 1 ≠ g := by omega
  have hm1 : m ≠ g + 1 := by omega
  have hm2 : g + 1 ≠ m := by omega
  go_region_held3 (fun w' => w'.cell? ⟨m, 0, none⟩ = some (.iface 88 (.pointer (some ⟨bt, 0, none⟩))) ∧ w'.cell? ⟨g, 1, none⟩ = some (.int .i64 n)) (first | go_keep) ((first | (go_at_call 182; refine (CA.out _).mono ?_; rintro e w2 ⟨rfl, x2⟩; have i2 : IsExt w1 w2 := ⟨(is_ext w1 _).trans x2⟩; have k2 := (i2.out.below.cell (p := ⟨m, 0, none⟩) l1).trans k1; obtain ⟨p1, p2, p3⟩ := (B5.out.ext i2.out).rules; obtain ⟨q1, q2, q3⟩ := (B6.out.ext i2.out).rules) | (go_at_call 94; refine (CT.out _ _).mono ?_; rintro e w3 ⟨rfl, x3⟩; have i3 : IsExt w1 w3 := ⟨i2.out.trans x3⟩; have k3 := (i3.out.below.cell (p := ⟨m, 0, none⟩) l1).trans k1; obtain ⟨p1, p2, p3⟩ := (B5.out.ext i3.out).rules; obtain ⟨q1, q2, q3⟩ := (B6.out.ext i3.out).rules)))
  go_wp2_with fail
  rw [Exit.noGoto_ret]
  refine bodyPost_ret (v := .tuple #[.agg #[.bool false, .int .i64 hs], .bool true]) (by simp [results, Tryz.results58, go_sem, q1]) rfl ⟨rfl, ?_⟩
  exact ((i1.out.trans i3.out).setNew (p := ⟨g + 1, 0, none⟩) (show w.heap.size ≤ g + 1 by omega) _).setNew (p := ⟨g + 1, 1, none⟩) (show w.heap.size ≤ g + 1 by omega) _
set_option maxRecDepth 100000 in
set_option maxHeartbeats 1000000 in
/-- a thing's size -/
theorem pa23 (h : M w F m S) (n : Int) : Calls Tryz.prog 58 #[.pointer (some ⟨m, 0, none⟩), .int .i64 23, .agg #[.bool true, .int .i64 n]] w fun e w' => e = .returned (.tuple #[.agg #[.bool false, .int .i64 (S.size n)], .bool true]) ∧ Ext w w' := by
  obtain ⟨X, hX⟩ := h
  obtain ⟨z1, _, ltm⟩ := hX.bm.rules
  have c0 : w.cell? ⟨m, 0, none⟩ = some (.iface 88 (.pointer (some ⟨X.bt, 0, none⟩))) := z1 0
  have C0 := Lib.hid c0
  have wf := hX.wf
  have CA := Lib.hid (fun W [x : IsExt w W] => tsize (hX.ext x.out).ts wf n)
  have CT := Lib.hid (fun W k => ptold W k true)
  clear hX z1 wf
  generalize S.size n = hs at *
  generalize X.bt = bt at *
  go_enter Tryz.func58, Tryz.ntmps58
  go_wp2_with fail
  go_step3
  go_upto_region 8 with (fail)
  refine wp_name (fun w1 hW => ?_)
  have i1 : IsExt w w1 := ⟨by rw [hW]; exact ((Ext.refl w).alloc _).alloc _⟩
  have B5 : Hid (Blk w1 w.heap.size 40 #[.bool true, .int .i64 n]) := Lib.hid (by rw [hW]; exact (Blk.new w _ _).alloc _)
  have B6 : Hid (Blk w1 (w.heap.size + 1) 40 #[.bool false, .int .i64 0]) := Lib.hid (by rw [hW]; exact Blk.at_ _ _ (by simp))
  have k1 := (i1.out.below.cell (p := ⟨m, 0, none⟩) ltm).trans C0.out
  have l1 := Nat.lt_of_lt_of_le ltm i1.out.below.size
  obtain ⟨p1, p2, p3⟩ := B5.out.rules
  obtain ⟨q1, q2, q3⟩ := B6.out.rules
  have s0 := p1 0
  have s1 := p1 1
  have ii1 : IsExt w1 w1 := ⟨Ext.refl _⟩
  clear hW c0
  generalize hg : w.heap.size = g at *
  have hne : g ≠ g + 1 := by omega
  have hne' : g + 1 ≠ g := by omega
  have hm1 : m ≠ g + 1 := by omega
  have hm2 : g + 1 ≠ m := by omega
  go_region_held3 (fun w' => w'.cell? ⟨m, 0, none⟩ = some (.iface 88 (.pointer (some ⟨bt, 0, none⟩))) ∧ w'.cell? ⟨g, 0, none⟩ = some (.bool true) ∧ w'.cell? ⟨g, 1, none⟩ = some (.int .i64 n)) (first | go_keep) ((first | (go_at_call 191; refine (CA.out _).mono ?_; rintro e w2 ⟨rfl, x2⟩; have i2 : IsExt w1 w2 := ⟨(is_ext w1 _).trans x2⟩; have k2 := (i2.out.below.cell (p := ⟨m, 0, none⟩) l1).trans k1; obtain ⟨p1, p2, p3⟩ := (B5.out.ext i2.out).rules; obtain ⟨q1, q2, q3⟩ := (B6.out.ext i2.out).rules) | (go_at_call 94; refine (CT.out _ _).mono ?_; rintro e w3 ⟨rfl, x3⟩; have i3 : IsExt w1 w3 := ⟨i2.out.trans x3⟩; have k3 := (i3.out.below.cell (p := ⟨m, 0, none⟩) l1).trans k1; obtain ⟨p1, p2, p3⟩ := (B5.out.ext i3.out).rules; obtain ⟨q1, q2, q3⟩ := (B6.out.ext i3.out).rules)))
  go_wp2_with fail
  rw [Exit.noGoto_ret]
  refine bodyPost_ret (v := .tuple #[.agg #[.bool false, .int .i64 hs], .bool true]) (by simp [results, Tryz.results58, go_sem, q1]) rfl ⟨rfl, ?_⟩
  exact ((i1.out.trans i3.out).setNew (p := ⟨g + 1, 0, none⟩) (show w.heap.size ≤ g + 1 by omega) _).setNew (p := ⟨g + 1, 1, none⟩) (show w.heap.size ≤ g + 1 by omega) _
set_option maxRecDepth 100000 in
set_option maxHeartbeats 1000000 in
theorem kclass (h : M w F m S) (n : Int) : Calls Tryz.prog 93 #[.pointer (some ⟨m, 0, none⟩), .agg #[.bool true, .int .i64 n]] w fun e w' => e = .returned (.int .i64 (S.cls n)) ∧ Ext w w' := by
  obtain ⟨X, hX⟩ := h
  obtain ⟨z1, _, ltm⟩ := hX.bm.rules
  have c0 : w.cell? ⟨m, 0, none⟩ = some (.iface 88 (.pointer (some ⟨X.bt, 0, none⟩))) := z1 0
  have wf := hX.wf
  have CA := Lib.hid (fun W [x : IsExt w W] => tclass (hX.ext x.out).ts wf n)
  clear hX z1 wf
  generalize S.cls n = hs at *
  generalize X.bt = bt at *
  go_enter Tryz.func93, Tryz.ntmps93
  go_wp2_with fail
  refine wp_region_ext (by kernel_rfl) (by kernel_rfl) ?_
  repeat (go_big_quiet_step ((first | (go_at_call 176; exact calls_ext (CA.out _)))))
  refine wpQuiet_nil ?_
  rintro W ⟨x, rfl⟩
  go_wp2
  go_ret
  exact ⟨rfl, is_ext _ _⟩
set_option maxRecDepth 100000 in
set_option maxHeartbeats 1000000 in
/-- a thing's class -/
theorem pa21 (h : M w F m S) (n : Int) : Calls Tryz.prog 58 #[.pointer (some ⟨m, 0, none⟩), .int .i64 21, .agg #[.bool true, .int .i64 n]] w fun e w' => e = .returned (.tuple #[.agg #[.bool true, .int .i64 (S.cls n)], .bool true]) ∧ Ext w w' := by
  have CK := Lib.hid (fun W [x : IsExt w W] => kclass (h.ext x.out) n)
  have CT := Lib.hid (fun W k => pplace W k true)
  clear h
  generalize S.cls n = hs at *
  go_enter Tryz.func58, Tryz.ntmps58
  go_wp2_with fail
  go_step3
  go_wp2_with fail
  refine (CK.out _).mono ?_
  rintro e w1 ⟨rfl, x1⟩
  have B6 := (Blk.at_ (w := w.alloc (.cells #[.bool true, .int .i64 n] 40)) (g := w.heap.size + 1) 40 #[.bool false, .int .i64 0] (by simp)).ext x1
  have i1 : IsExt w w1 := ⟨(((Ext.refl w).alloc _).alloc _).trans x1⟩
  clear x1 CK
  go_wp2_with fail
  refine (CT.out _ _).mono ?_
  rintro e w2 ⟨rfl, x2⟩
  obtain ⟨q1, q2, q3⟩ := (B6.ext x2).rules
  have X2 := Lib.hid (i1.out.trans x2)
  clear x2 CT i1 B6
  go_wp2_with fail
  rw [Exit.noGoto_ret]
  refine bodyPost_ret (v := .tuple #[.agg #[.bool true, .int .i64 hs], .bool true]) (by simp [results, Tryz.results58, go_sem, q1]) rfl ⟨rfl, ?_⟩
  exact (X2.out.setNew (p := ⟨w.heap.size + 1, 0, none⟩) (show w.heap.size ≤ w.heap.size + 1 by omega) _).setNew (p := ⟨w.heap.size + 1, 1, none⟩) (show w.heap.size ≤ w.heap.size + 1 by omega) _
set_option maxRecDepth 100000 in
set_option maxHeartbeats 1000000 in
/-- an instance -/
theorem pa26 (h : M w F m S) (hp : S.phase ≠ 1) (n : Int) : Calls Tryz.prog 58 #[.pointer (some ⟨m, 0, none⟩), .int .i64 26, .agg #[.bool true, .int .i64 n]] w fun e w' => e = .returned (.tuple #[.agg #[.bool (S.makeOK n 0), .int .i64 (S.makeId n 0)], .bool (S.makeOK n 0)]) ∧ Goes F m (S.make n 0) w w' := by
  have CK := Lib.hid (fun W [x : IsExt w W] => mmake (h.ext x.out) hp n 0)
  have CT := Lib.hid (fun W k ok => pplace W k ok)
  have E : Hid ((if S.makeOK n 0 = true then S.makeId n 0 else 0) = S.makeId n 0) := Lib.hid (by unfold MS.makeId; split <;> rfl)
  have HF := Lib.hid h.lt
  clear h hp
  generalize S.makeOK n 0 = ok at *
  generalize S.makeId n 0 = id at *
  generalize S.make n 0 = P at *
  go_enter Tryz.func58, Tryz.ntmps58
  go_wp2_with fail
  go_step3
  go_wp2_with fail
  refine (CK.out _).mono ?_
  rintro e w1 ⟨rfl, F1, m1, v1⟩
  have B6 := (Blk.at_ (w := w.alloc (.cells #[.bool true, .int .i64 n] 40)) (g := w.heap.size + 1) 40 #[.bool false, .int .i64 0] (by simp))
  obtain ⟨b6, nF⟩ := v1.blk B6 (fun hf => by have := HF.out _ hf; omega)
  have V1 : Hid (Mov F F1 w w1) := Lib.hid ((Mov.of_ext (((Ext.refl w).alloc _).alloc _)).trans v1)
  have M1 := Lib.hid m1
  have NF := Lib.hid nF
  clear v1 m1 CK B6 nF
  go_wp2_with fail
  refine (CT.out _ _ _).mono ?_
  rintro e w2 ⟨rfl, x2⟩
  rw [E.out]
  obtain ⟨q1, q2, q3⟩ := (b6.ext x2).rules
  have M2 := Lib.hid (M1.out.ext x2)
  have V2 := Lib.hid (V1.out.ext x2)
  clear x2 CT b6 M1 V1
  generalize hg : w.heap.size + 1 = g at *
  go_wp2_with fail
  rw [Exit.noGoto_ret]
  refine bodyPost_ret (v := .tuple #[.agg #[.bool ok, .int .i64 id], .bool ok]) (by simp [results, Tryz.results58, go_sem, q1]) rfl ⟨rfl, F1, ?_, ?_⟩
  · exact M2.out.far (((Keep.refl (· = g) w2).setCell (p := ⟨g, 0, none⟩) rfl _).setCell (p := ⟨g, 1, none⟩) rfl _) (fun j e hf => NF.out (e ▸ hf))
  · exact ⟨(V2.out.keep.setNew (p := ⟨g, 0, none⟩) (show w.heap.size ≤ g by omega) _).setNew (p := ⟨g, 1, none⟩) (show w.heap.size ≤ g by omega) _, V2.out.new⟩
end
end Go.Proofs.YtnhijjcplnomgaaGreat.World
