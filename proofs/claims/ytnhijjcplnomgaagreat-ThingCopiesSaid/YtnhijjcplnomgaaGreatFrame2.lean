/-
  Contracts of package frame (chapter 14): blocks, frames.
-/
import Derived.Test.YtnhijjcplnomgaaGreatFrame
namespace Go.Proofs.YtnhijjcplnomgaaGreat.World
open Go.RowKit Go.Proofs.YtnhijjcplnomgaaGreat.Plain
set_option linter.unusedVariables false
attribute [local go_sem ↓] Go.wp_at_zero Go.wp_at_succ
theorem neq_val (a b : Bool) (n k : Int) (w : World) : (binOp .neq 40 (.agg #[.bool a, .int .i64 n]) (.agg #[.bool b, .int .i64 k])).run Tryz.prog w = .ok (.bool (!(a == b && n == k))) w := by
  by_cases h : n = k
  · subst h; cases a <;> cases b <;> simp [go_sem]
  · have h' : (n == k) = false := beq_eq_false_iff_ne.2 h
    cases a <;> cases b <;> simp [go_sem, h, h']
theorem eql_val (a b : Bool) (n k : Int) (w : World) : (binOp .eql 40 (.agg #[.bool a, .int .i64 n]) (.agg #[.bool b, .int .i64 k])).run Tryz.prog w = .ok (.bool (a == b && n == k)) w := by
  by_cases h : n = k
  · subst h; cases a <;> cases b <;> simp [go_sem]
  · have h' : (n == k) = false := beq_eq_false_iff_ne.2 h
    cases a <;> cases b <;> simp [go_sem, h, h']
theorem isNil_eq (v : PV) : MS.isNil v = (v.obj && v.n == 0) := by
  unfold MS.isNil; rfl
section
variable {w w' w2 : World} {F F' F2 : Nat → Prop} {m : Nat} {S S' : MS} {X : MX}
set_option maxRecDepth 100000 in
set_option maxHeartbeats 2000000 in
theorem fblock (h : M w F m S) (id : Int) : Calls Tryz.prog 84 #[.pointer (some ⟨m, 0, none⟩), .int .i64 id] w fun e w' => e = .returned (.bool (S.isBlock id)) ∧ Ext w w' := by
  obtain ⟨bt, R⟩ := h.rd
  have c0 := R.c0
  have lt := R.lt
  have C1 := Lib.hid (fun W [x : IsExt w W] => fplain (h.ext x.out) ⟨true, id⟩ 4)
  have C2 := Lib.hid (fun W [x : IsExt w W] i k => fnumber (h.ext x.out) id i k)
  have C3 := Lib.hid (fun W [x : IsExt w W] i => mget (h.ext x.out) id i)
  have C4 := Lib.hid (fun W [x : IsExt w W] => froom (h.ext x.out) (S.get id 0))
  have E : Hid (S.isBlock id = (S.plainB ⟨true, id⟩ 4 && (S.isRoom (S.get id 0) && (!(S.get id 3).obj && (S.numB id 1 8 && (S.numB id 2 8 && decide ((S.get id 1).n ≤ (S.get id 2).n))))))) := Lib.hid rfl
  clear h R
  generalize S.isBlock id = res at *
  unfold val at *
  go_enter Tryz.func84, Tryz.ntmps84
  go_wp2_with (first | (go_at_call 91; refine (C1.out _).mono ?_; rintro e w2 ⟨rfl, x2⟩; obtain ⟨y, rfl⟩ := Ext.trans (is_ext w _) x2; clear x2) | (go_at_call 83; refine (C2.out _ _ _).mono ?_; rintro e w2 ⟨rfl, x2⟩; obtain ⟨y, rfl⟩ := Ext.trans (is_ext w _) x2; clear x2) | (go_at_call 24; refine (C3.out _ _).mono ?_; rintro e w2 ⟨rfl, x2⟩; obtain ⟨y, rfl⟩ := Ext.trans (is_ext w _) x2; clear x2) | (go_at_call 82; refine (C4.out _).mono ?_; rintro e w2 ⟨rfl, x2⟩; obtain ⟨y, rfl⟩ := Ext.trans (is_ext w _) x2; clear x2))
  all_goals
    go_ret
    refine ⟨ret_bool ?_, is_ext _ _⟩
    rw [E.out]; first | (simp [*]; done) | (simp_all; done)
set_option maxRecDepth 100000 in
set_option maxHeartbeats 4000000 in
theorem fis (h : M w F m S) (id : Int) : Calls Tryz.prog 39 #[.pointer (some ⟨m, 0, none⟩), .int .i64 id] w fun e w' => e = .returned (.bool (S.isFrame id)) ∧ Ext w w' := by
  obtain ⟨bt, R⟩ := h.rd
  have lt := R.lt
  have C0 := Lib.hid (fun W (x : Ext w W) => mnil (h.ext x))
  have C1 := Lib.hid (fun W [x : IsExt w W] => froom (h.ext x.out) ⟨true, id⟩)
  have C2 := Lib.hid (fun W [x : IsExt w W] => fnumber (h.ext x.out) id 2 16)
  have C3 := Lib.hid (fun W [x : IsExt w W] i => mget (h.ext x.out) id i)
  have C4 := Lib.hid (fun W (x : Ext w W) => froom (h.ext x) (S.get id 0))
  have C5 := Lib.hid (fun W (x : Ext w W) => fmethod (h.ext x) (S.get id 3).n)
  have C6 := Lib.hid (fun W (x : Ext w W) => fblock (h.ext x) (S.get id 5).n)
  have hne := neq_val
  have heq := eql_val
  have E : Hid (S.isFrame id = (!decide (id = 0) && (S.isRoom ⟨true, id⟩ && (!(S.get id 1).obj && (S.numB id 2 16 && (((S.get id 0).obj && (S.get id 0).n == 0 || S.isRoom (S.get id 0)) && ((S.get id 3).obj && (S.isMethod (S.get id 3).n && (((S.get id 5).obj && (S.get id 5).n == 0) || ((S.get id 5).obj && S.isBlock (S.get id 5).n)))))))))) := Lib.hid (by unfold MS.isFrame; rw [isNil_eq, isNil_eq])
  clear h R
  generalize S.isFrame id = res at *
  have hid0 : id = 0 ∨ (id == 0) = false := by by_cases h : id = 0; exact .inl h; exact .inr (beq_eq_false_iff_ne.2 h)
  generalize S.isRoom ⟨true, id⟩ = rm at *
  generalize S.numB id 2 16 = nb at *
  generalize S.isRoom (S.get id 0) = r0 at *
  generalize S.isMethod (S.get id 3).n = mm at *
  generalize S.isBlock (S.get id 5).n = k5 at *
  unfold val objV at *
  rcases hid0 with rfl | hid0
  · go_enter Tryz.func39, Tryz.ntmps39
    go_wp2_with (first | (go_at_call 81; refine (C0.out _ (is_ext w _)).mono ?_; rintro e w2 ⟨rfl, x2⟩; obtain ⟨y, rfl⟩ := Ext.trans (is_ext w _) x2; clear x2))
    go_ret
    exact ⟨ret_bool (by rw [E.out]; rfl), is_ext _ _⟩
  · go_enter Tryz.func39, Tryz.ntmps39
    go_wp2_with (first | (go_at_call 81; refine (C0.out _ (is_ext w _)).mono ?_; rintro e w2 ⟨rfl, x2⟩; obtain ⟨y, rfl⟩ := Ext.trans (is_ext w _) x2; clear x2) | (go_at_call 82; refine (C1.out _).mono ?_; rintro e w2 ⟨rfl, x2⟩; obtain ⟨y, rfl⟩ := Ext.trans (is_ext w _) x2; clear x2) | (go_at_call 83; refine (C2.out _).mono ?_; rintro e w2 ⟨rfl, x2⟩; obtain ⟨y, rfl⟩ := Ext.trans (is_ext w _) x2; clear x2) | (go_at_call 24; refine (C3.out _ _).mono ?_; rintro e w2 ⟨rfl, x2⟩; obtain ⟨y, rfl⟩ := Ext.trans (is_ext w _) x2; clear x2))
    all_goals first
      | (go_ret
         refine ⟨ret_bool ?_, is_ext _ _⟩
         rw [E.out]; first | (simp [*]; done) | (simp_all; done))
      | (refine wp_name (fun W4 hW => ?_)
         have hx : Ext w W4 := by rw [hW]; exact is_ext _ _
         have sz : (Plain.ext w y).heap.size = w.heap.size + y.blocks.size := size_ext w y
         have B5 : Blk W4 (w.heap.size + y.blocks.size) 40 #[.bool (S.get id 0).obj, .int .i64 (S.get id 0).n] := by
           rw [hW, ← sz]; exact ((Blk.new _ _ _).alloc _).alloc _
         have B6 : Blk W4 (w.heap.size + y.blocks.size + 1) 40 #[.bool (S.get id 3).obj, .int .i64 (S.get id 3).n] := by
           have e : ∀ o : Obj, ((Plain.ext w y).alloc o).heap.size = w.heap.size + y.blocks.size + 1 := fun o => by rw [← sz]; exact Array.size_push ..
           rw [hW, ← e]; exact (Blk.new _ _ _).alloc _
         have B7 : Blk W4 (w.heap.size + y.blocks.size + 1 + 1) 40 #[.bool (S.get id 5).obj, .int .i64 (S.get id 5).n] := by
           have e : ∀ o o' : Obj, (((Plain.ext w y).alloc o).alloc o').heap.size = w.heap.size + y.blocks.size + 1 + 1 := fun o o' => by
             have e1 : ((Plain.ext w y).alloc o).heap.size = w.heap.size + y.blocks.size + 1 := by rw [← sz]; exact Array.size_push ..
             rw [← e1]; exact Array.size_push ..
           rw [hW, ← e]; exact Blk.new _ _ _
         clear hW sz
         generalize w.heap.size + y.blocks.size = g5 at *
         generalize g5 + 1 = g6 at *
         generalize g6 + 1 = g7 at *
         have EE := Lib.hid E.out
         clear E C1 C2 C3
         obtain ⟨z0, hz0⟩ : ∃ z0, z0 = ((S.get id 0).obj == true && (S.get id 0).n == 0) := ⟨_, rfl⟩
         obtain ⟨z5, hz5⟩ : ∃ z5, z5 = ((S.get id 5).obj == true && (S.get id 5).n == 0) := ⟨_, rfl⟩
         have N5 := heq (S.get id 5).obj true (S.get id 5).n 0
         rw [← hz5] at N5
         have HZ5 := Lib.hid hz5
         clear hz5 heq
         have N0 := hne (S.get id 0).obj true (S.get id 0).n 0
         rw [← hz0] at N0
         have HZ0 := Lib.hid hz0
         clear hz0 hne
         have hcase : z0 = true ∨ (z0 = false ∧ r0 = true) ∨ (z0 = false ∧ r0 = false) := by cases z0 <;> cases r0 <;> simp
         rcases hcase with rfl | ⟨rfl, rfl⟩ | ⟨rfl, rfl⟩
         all_goals
           obtain ⟨p1, p2, p3⟩ := B5.rules
           refine wp_region_ext (by kernel_rfl) (by kernel_rfl) ?_
           repeat (go_big_quiet_step ((first | (go_at_call 81; exact calls_ext (C0.out _ (Ext.trans hx ⟨_, rfl⟩))) | (go_at_call 82; exact calls_ext (C4.out _ (Ext.trans hx ⟨_, rfl⟩))))))
           refine wpQuiet_nil ?_
           rintro W ⟨x, rfl⟩
           have hx5 : Ext w (Plain.ext W4 x) := hx.trans ⟨x, rfl⟩
           have B6' := B6.ext ⟨x, rfl⟩
           have B7' := B7.ext ⟨x, rfl⟩
           clear B5 B6 B7 p1 p2 p3 N0 hx C4
           generalize Plain.ext W4 x = W5 at *
           obtain ⟨q1, q2, q3⟩ := B6'.rules
           obtain ⟨r1, r2, r3⟩ := B7'.rules
           clear B6' B7'
           go_wp2_with fail
           first
             | (go_ret
                refine ⟨ret_bool ?_, hx5⟩
                rw [EE.out]
                have a0 := HZ0.out
                simp at a0
                simp_all
                done)
             | (have hc6 : (S.get id 3).obj = false ∨ ((S.get id 3).obj = true ∧ mm = false) ∨ ((S.get id 3).obj = true ∧ mm = true ∧ z5 = true) ∨ ((S.get id 3).obj = true ∧ mm = true ∧ z5 = false ∧ (S.get id 5).obj = false) ∨ ((S.get id 3).obj = true ∧ mm = true ∧ z5 = false ∧ (S.get id 5).obj = true) := by
                  cases (S.get id 3).obj <;> cases mm <;> cases z5 <;> cases (S.get id 5).obj <;> simp
                rcases hc6 with ho3 | ⟨ho3, hmm⟩ | ⟨ho3, hmm, hz5⟩ | ⟨ho3, hmm, hz5, ho5⟩ | ⟨ho3, hmm, hz5, ho5⟩
                all_goals
                  try rw [ho5] at N5
                  refine wp_region_ext (by kernel_rfl) (by kernel_rfl) ?_
                  repeat (go_big_quiet_step ((first | (go_at_call 81; exact calls_ext (C0.out _ (Ext.trans hx5 ⟨_, rfl⟩))) | (go_at_call 43; exact calls_ext (C5.out _ (Ext.trans hx5 ⟨_, rfl⟩))) | (go_at_call 84; exact calls_ext (C6.out _ (Ext.trans hx5 ⟨_, rfl⟩))))))
                  refine wpQuiet_nil ?_
                  rintro W ⟨x, rfl⟩
                  go_wp2
                  go_ret
                  refine ⟨ret_bool ?_, hx5.trans ⟨_, rfl⟩⟩
                  rw [EE.out]
                  have a0 := HZ0.out
                  have a5 := HZ5.out
                  simp at a0 a5
                  simp_all))
end
end Go.Proofs.YtnhijjcplnomgaaGreat.World
