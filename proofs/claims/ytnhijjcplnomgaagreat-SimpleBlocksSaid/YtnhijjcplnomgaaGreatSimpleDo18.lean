/-
  Contracts of simple.Do: jump, block.
-/
import Derived.Test.YtnhijjcplnomgaaGreatClosure
namespace Go.Proofs.YtnhijjcplnomgaaGreat.World
open Go.RowKit Go.Proofs.YtnhijjcplnomgaaGreat.Plain
set_option linter.unusedVariables false
attribute [local go_sem ↓] Go.wp_at_zero Go.wp_at_succ
section
variable {w w' w2 : World} {F F' F2 : Nat → Prop} {m : Nat} {S S' : MS} {X : MX}
set_option maxRecDepth 100000 in
set_option maxHeartbeats 2000000 in
/-- it goes on elsewhere -/
theorem sdo13 (h : M w F m S) (hp : S.phase ≠ 1) {id : Int} (hf : S.isFrame id = true) (b : Int) (hb : 0 ≤ b ∧ b ≤ 1000) : Calls Tryz.prog 23 #[.pointer (some ⟨m, 0, none⟩), .int .i64 id, .agg #[.int .i64 13, .int .i64 0, .int .i64 b]] w fun e w' => e = .returned (.bool (S.goOK id b)) ∧ M w' F m (S.goTo id b) ∧ Keep F w w' := by
  have C1 := Lib.hid (fun W [x : IsExt w W] => fis (h.ext x.out) id)
  have C2 := Lib.hid (fun W [x : IsExt w W] => mget (h.ext x.out) id 4)
  have C3 := Lib.hid (fun W [x : IsExt w W] => fgo (h.ext x.out) hp id b)
  rw [hf] at C1
  obtain ⟨b0, b1⟩ := hb
  clear h hf hp
  unfold val at *
  generalize S.goOK id b = ok at *
  generalize S.goTo id b = P at *
  generalize S.get id 4 = me at *
  obtain ⟨mo, mn⟩ := me
  go_enter Tryz.func23, Tryz.ntmps23
  go_wp2_with fail
  go_step3
  go_wp2_with fail
  refine (C1.out _).mono ?_
  rintro e w1 ⟨rfl, x1⟩
  have B5 := ((Blk.new w 50 #[.int .i64 13, .int .i64 0, .int .i64 b]).alloc (.cells #[.bool false, .int .i64 0] 40)).ext x1
  have i1 : IsExt w w1 := ⟨(((Ext.refl w).alloc _).alloc _).trans x1⟩
  clear x1 C1
  go_wp2_with fail
  refine (C2.out _).mono ?_
  rintro e w2 ⟨rfl, x2⟩
  replace B5 := (B5.ext x2).alloc (.cells #[.bool mo, .int .i64 mn] 40)
  have i2 : IsExt w w2 := ⟨i1.out.trans x2⟩
  obtain ⟨p1, p2, p3⟩ := B5.rules
  clear x2 C2 i1
  generalize hg5 : w.heap.size = g at *
  go_wp2_with fail
  refine (C3.out _).mono ?_
  rintro e w4 ⟨rfl, m4, k4⟩
  have R := Lib.hid (show M w4 F m P ∧ Keep F w w4 from ⟨m4, (Keep.of_ext (i2.out.alloc _) F).trans k4⟩)
  clear m4 k4 C3 i2 p1 p2 p3 B5
  go_wp2_with fail
  rw [Exit.noGoto_ret]
  go_ret
  exact ⟨ret_bool (by simp), R.out⟩
set_option maxRecDepth 100000 in
set_option maxHeartbeats 2000000 in
/-- a block is pushed -/
theorem sdo18 (h : M w F m S) (st : S.Std) (hl : S.last < 3000) {id a t p : Int} (hid : S.isFrame id = true) (hp : S.get id 1 = num p) (hp2 : 0 ≤ p ∧ p ≤ 4000) (ha : 0 ≤ a ∧ a ≤ t ∧ t ≤ 8) : Calls Tryz.prog 23 #[.pointer (some ⟨m, 0, none⟩), .int .i64 id, .agg #[.int .i64 18, .int .i64 a, .int .i64 t]] w fun e w' => e = .returned (.bool ((S.clS (MS.clV id a t (p + 1)) 4).pushOK id (objV S.L.length))) ∧ Goes F m ((S.clS (MS.clV id a t (p + 1)) 4).push id (objV S.L.length)) w w' := by
  have C1 := Lib.hid (fun W [x : IsExt w W] => fis (h.ext x.out) id)
  have C2 := Lib.hid (fun W [x : IsExt w W] => mget (h.ext x.out) id 4)
  have C3 := Lib.hid (fun W [x : IsExt w W] => sclosure (h.ext x.out) st hl hid hp hp2 ha)
  have PH : (S.clS (MS.clV id a t (p + 1)) 4).phase ≠ 1 := by rw [MS.clS_phase, st.ph]; decide
  have HF := Lib.hid h.lt
  rw [hid] at C1
  clear h st hl hp hp2 hid
  unfold val at *
  generalize S.clS (MS.clV id a t (p + 1)) 4 = C at *
  generalize S.L.length = n at *
  generalize S.get id 4 = me at *
  obtain ⟨mo, mn⟩ := me
  go_enter Tryz.func23, Tryz.ntmps23
  go_wp2_with fail
  go_step3
  go_wp2_with fail
  refine (C1.out _).mono ?_
  rintro e w1 ⟨rfl, x1⟩
  have B5 := ((Blk.new w 50 #[.int .i64 18, .int .i64 a, .int .i64 t]).alloc (.cells #[.bool false, .int .i64 0] 40)).ext x1
  have B7 := (Blk.at_ (w := w.alloc (.cells #[.int .i64 18, .int .i64 a, .int .i64 t] 50)) (g := w.heap.size + 1) 40 #[.bool false, .int .i64 0] (by simp)).ext x1
  have i1 : IsExt w w1 := ⟨(((Ext.refl w).alloc _).alloc _).trans x1⟩
  clear x1 C1
  go_wp2_with fail
  refine (C2.out _).mono ?_
  rintro e w2 ⟨rfl, x2⟩
  replace B5 := (B5.ext x2).alloc (.cells #[.bool mo, .int .i64 mn] 40)
  replace B7 := (B7.ext x2).alloc (.cells #[.bool mo, .int .i64 mn] 40)
  have i2 : IsExt w w2 := ⟨i1.out.trans x2⟩
  obtain ⟨p1, p2, p3⟩ := B5.rules
  clear x2 C2 i1
  generalize hg5 : w.heap.size = g at *
  go_wp2_with fail
  refine (C3.out _).mono ?_
  rintro e w4 ⟨rfl, F4, m4, v4⟩
  obtain ⟨b7, nF⟩ := v4.blk B7 (fun hf => by have := HF.out _ hf; omega)
  have V4 := Lib.hid ((Mov.of_ext (i2.out.alloc _)).trans v4)
  have M4 := Lib.hid m4
  have NF := Lib.hid nF
  obtain ⟨q1, q2, q3⟩ := b7.rules
  have B7' := Lib.hid b7
  clear m4 v4 C3 i2 p1 p2 p3 B5 B7 nF b7
  go_wp2_with fail
  refine calls_name (fun w5 hW => ?_)
  have m5 : M w5 F4 m C := by rw [hW]; exact M4.out.far (((Keep.refl (· = g + 1) w4).setCell (p := ⟨g + 1, 0, none⟩) rfl _).setCell (p := ⟨g + 1, 1, none⟩) rfl _) (fun j e hf => NF.out (e ▸ hf))
  have V5 : Hid (Mov F F4 w w5) := Lib.hid (by rw [hW]; exact ⟨(V4.out.keep.setNew (p := ⟨g + 1, 0, none⟩) (show w.heap.size ≤ g + 1 by omega) _).setNew (p := ⟨g + 1, 1, none⟩) (show w.heap.size ≤ g + 1 by omega) _, V4.out.new⟩)
  have CP := Lib.hid (fpush m5 PH id (objV n))
  unfold val objV at CP
  clear hW m5 M4 V4 q1 q2 q3 B7' NF PH
  refine CP.out.mono ?_
  rintro e w6 ⟨rfl, m6, k6⟩
  have R : Hid (Goes F m (C.push id (objV n)) w w6) := Lib.hid ⟨F4, m6, V5.out.trans (Mov.of_keep k6)⟩
  clear m6 k6 CP V5
  go_wp2_with fail
  rw [Exit.noGoto_ret]
  go_ret
  exact ⟨ret_bool (by simp [objV]), R.out⟩
set_option maxRecDepth 100000 in
set_option maxHeartbeats 2000000 in
theorem sdo18_no (h : M w F m S) (st : S.Std) {id a t : Int} (hid : S.isFrame id = true) (ha : 0 ≤ a ∧ a ≤ 100 ∧ 0 ≤ t ∧ t ≤ 100) (hn : ¬ (a ≤ t ∧ t ≤ 8)) : Calls Tryz.prog 23 #[.pointer (some ⟨m, 0, none⟩), .int .i64 id, .agg #[.int .i64 18, .int .i64 a, .int .i64 t]] w fun e w' => e = .returned (.bool false) ∧ Ext w w' := by
  have C1 := Lib.hid (fun W [x : IsExt w W] => fis (h.ext x.out) id)
  have C2 := Lib.hid (fun W [x : IsExt w W] => mget (h.ext x.out) id 4)
  have C3 := Lib.hid (fun W [x : IsExt w W] => sclosure_no (h.ext x.out) st id ha hn)
  rw [hid] at C1
  clear h st hid ha hn
  unfold val at *
  generalize S.get id 4 = me at *
  obtain ⟨mo, mn⟩ := me
  go_enter Tryz.func23, Tryz.ntmps23
  go_wp2_with fail
  go_step3
  go_wp2_with fail
  refine (C1.out _).mono ?_
  rintro e w1 ⟨rfl, x1⟩
  have B5 := ((Blk.new w 50 #[.int .i64 18, .int .i64 a, .int .i64 t]).alloc (.cells #[.bool false, .int .i64 0] 40)).ext x1
  have B7 := (Blk.at_ (w := w.alloc (.cells #[.int .i64 18, .int .i64 a, .int .i64 t] 50)) (g := w.heap.size + 1) 40 #[.bool false, .int .i64 0] (by simp)).ext x1
  have i1 : IsExt w w1 := ⟨(((Ext.refl w).alloc _).alloc _).trans x1⟩
  clear x1 C1
  go_wp2_with fail
  refine (C2.out _).mono ?_
  rintro e w2 ⟨rfl, x2⟩
  replace B5 := (B5.ext x2).alloc (.cells #[.bool mo, .int .i64 mn] 40)
  replace B7 := (B7.ext x2).alloc (.cells #[.bool mo, .int .i64 mn] 40)
  have i2 : IsExt w w2 := ⟨i1.out.trans x2⟩
  obtain ⟨p1, p2, p3⟩ := B5.rules
  clear x2 C2 i1
  generalize hg5 : w.heap.size = g at *
  go_wp2_with fail
  refine (C3.out _).mono ?_
  rintro e w4 ⟨rfl, x4⟩
  obtain ⟨q1, q2, q3⟩ := (B7.ext x4).rules
  have X4 := Lib.hid ((i2.out.alloc _).trans x4)
  clear x4 C3 i2 p1 p2 p3 B5 B7
  go_wp2_with fail
  rw [Exit.noGoto_ret]
  go_ret
  exact ⟨rfl, (X4.out.setNew (p := ⟨g + 1, 0, none⟩) (show w.heap.size ≤ g + 1 by omega) _).setNew (p := ⟨g + 1, 1, none⟩) (show w.heap.size ≤ g + 1 by omega) _⟩
end
end Go.Proofs.YtnhijjcplnomgaaGreat.World
