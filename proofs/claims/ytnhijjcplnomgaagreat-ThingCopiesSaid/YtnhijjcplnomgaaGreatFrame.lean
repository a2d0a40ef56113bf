/-
  Contracts of package frame (chapter 14): what is a frame.
-/
import Derived.Test.YtnhijjcplnomgaaGreatMem4
import Derived.Test.YtnhijjcplnomgaaGreatFirstPlain
namespace Go.Proofs.YtnhijjcplnomgaaGreat.World
open Go.RowKit Go.Proofs.YtnhijjcplnomgaaGreat.Plain
set_option linter.unusedVariables false
attribute [local go_sem ↓] Go.wp_at_zero Go.wp_at_succ
namespace MS
def numB (S : MS) (id i most : Int) : Bool := !(S.get id i).obj && decide (0 ≤ (S.get id i).n ∧ (S.get id i).n ≤ most)
def plainB (S : MS) (v : PV) (n : Int) : Bool := v.obj && (decide (S.fmt v.n = 1) && decide (n ≤ S.size v.n))
def isRoom (S : MS) (v : PV) : Bool := S.plainB v 22 && decide (S.size v.n = 22)
def isMethod (S : MS) (id : Int) : Bool := S.plainB ⟨true, id⟩ 4 && (S.numB id 0 8 && (S.numB id 1 8 && (S.numB id 2 200 && (decide ((S.get id 0).n ≤ (S.get id 1).n) && ((S.get id 3).obj && decide (S.fmt (S.get id 3).n = 3))))))
def isBlock (S : MS) (id : Int) : Bool := S.plainB ⟨true, id⟩ 4 && (S.isRoom (S.get id 0) && (!(S.get id 3).obj && (S.numB id 1 8 && (S.numB id 2 8 && decide ((S.get id 1).n ≤ (S.get id 2).n)))))
def isNil (v : PV) : Bool := v.obj && decide (v.n = 0)
def isFrame (S : MS) (id : Int) : Bool := !decide (id = 0) && (S.isRoom ⟨true, id⟩ && (!(S.get id 1).obj && (S.numB id 2 16 && ((isNil (S.get id 0) || S.isRoom (S.get id 0)) && ((S.get id 3).obj && (S.isMethod (S.get id 3).n && (isNil (S.get id 5) || ((S.get id 5).obj && S.isBlock (S.get id 5).n))))))))
end MS
section
variable {w w' w2 : World} {F F' F2 : Nat → Prop} {m : Nat} {S S' : MS} {X : MX}
set_option maxRecDepth 100000 in
set_option maxHeartbeats 1000000 in
theorem fnumber (h : M w F m S) (id i most : Int) : Calls Tryz.prog 83 #[.pointer (some ⟨m, 0, none⟩), .int .i64 id, .int .i64 i, .int .i64 most] w fun e w' => e = .returned (.bool (S.numB id i most)) ∧ Ext w w' := by
  have C1 := Lib.hid (fun W [x : IsExt w W] => mget (h.ext x.out) id i)
  have E : Hid (S.numB id i most = (!(S.get id i).obj && decide (0 ≤ (S.get id i).n ∧ (S.get id i).n ≤ most))) := Lib.hid rfl
  clear h
  generalize S.get id i = v at *
  obtain ⟨o, n⟩ := v
  unfold val at *
  cases o
  all_goals
    go_enter Tryz.func83, Tryz.ntmps83
    go_wp2_with (first | (go_at_call 24; refine (C1.out _).mono ?_; rintro e w2 ⟨rfl, x2⟩; obtain ⟨y, rfl⟩ := x2))
    all_goals (go_ret; refine ⟨ret_bool ?_, is_ext _ _⟩; rw [E.out]; simp [*] <;> (intros; omega))
set_option maxRecDepth 100000 in
set_option maxHeartbeats 1000000 in
theorem fplain (h : M w F m S) (v : PV) (k : Int) : Calls Tryz.prog 91 #[.pointer (some ⟨m, 0, none⟩), val v, .int .i64 k] w fun e w' => e = .returned (.bool (S.plainB v k)) ∧ Ext w w' := by
  obtain ⟨bt, R⟩ := h.rd
  obtain ⟨o, n⟩ := v
  have c0 := R.c0
  have lt := R.lt
  have C2 := Lib.hid (fun W [IsExt w W] => R.fmt W n)
  have C3 := Lib.hid (fun W [IsExt w W] => R.size W n)
  have E : Hid (S.plainB ⟨o, n⟩ k = (o && (decide (S.fmt n = 1) && decide (k ≤ S.size n)))) := Lib.hid rfl
  clear h R
  unfold val
  generalize S.fmt n = f at *
  generalize S.size n = s at *
  cases o
  · go_enter Tryz.func91, Tryz.ntmps91
    go_wp2_with fail
    refine wp_region_ext (by kernel_rfl) (by kernel_rfl) ?_
    repeat (go_big_quiet_step (fail))
    refine wpQuiet_nil ?_
    rintro W ⟨x, rfl⟩
    go_wp2
    go_ret
    exact ⟨ret_bool (by rw [E.out]; rfl), is_ext _ _⟩
  · rcases (show f = 1 ∨ (f == 1) = false from by by_cases hf : f = 1; exact .inl hf; exact .inr (beq_eq_false_iff_ne.2 hf)) with rfl | hf
    · go_enter Tryz.func91, Tryz.ntmps91
      go_wp2_with fail
      refine wp_region_ext (by kernel_rfl) (by kernel_rfl) ?_
      repeat (go_big_quiet_step ((first | (go_at_call 180; exact calls_ext (C2.out _)) | (go_at_call 191; exact calls_ext (C3.out _)))))
      refine wpQuiet_nil ?_
      rintro W ⟨x, rfl⟩
      go_wp2
      go_ret
      exact ⟨ret_bool (by rw [E.out]; simp), is_ext _ _⟩
    · go_enter Tryz.func91, Tryz.ntmps91
      go_wp2_with fail
      refine wp_region_ext (by kernel_rfl) (by kernel_rfl) ?_
      repeat (go_big_quiet_step ((first | (go_at_call 180; exact calls_ext (C2.out _)))))
      refine wpQuiet_nil ?_
      rintro W ⟨x, rfl⟩
      go_wp2
      go_ret
      exact ⟨ret_bool (by rw [E.out]; have := beq_eq_false_iff_ne.1 hf; simp [this]), is_ext _ _⟩
set_option maxRecDepth 100000 in
set_option maxHeartbeats 1000000 in
theorem froom (h : M w F m S) (v : PV) : Calls Tryz.prog 82 #[.pointer (some ⟨m, 0, none⟩), val v] w fun e w' => e = .returned (.bool (S.isRoom v)) ∧ Ext w w' := by
  obtain ⟨bt, R⟩ := h.rd
  obtain ⟨o, n⟩ := v
  have c0 := R.c0
  have lt := R.lt
  have C1 := Lib.hid (fun W (x : Ext w W) => fplain (h.ext x) ⟨o, n⟩ 22)
  have C3 := Lib.hid (fun W [IsExt w W] => R.size W n)
  have E : Hid (S.isRoom ⟨o, n⟩ = (S.plainB ⟨o, n⟩ 22 && decide (S.size n = 22))) := Lib.hid rfl
  clear h R
  unfold val at *
  generalize S.plainB ⟨o, n⟩ 22 = p at *
  generalize S.size n = s at *
  cases p
  all_goals
    go_enter Tryz.func82, Tryz.ntmps82
    go_wp2_with fail
    refine wp_region_ext (by kernel_rfl) (by kernel_rfl) ?_
    repeat (go_big_quiet_step ((first | (go_at_call 91; exact calls_ext (C1.out _ (is_ext _ _))) | (go_at_call 191; exact calls_ext (C3.out _)))))
    refine wpQuiet_nil ?_
    rintro W ⟨x, rfl⟩
    go_wp2
    go_ret
    exact ⟨ret_bool (by rw [E.out]; simp <;> rfl), is_ext _ _⟩
set_option maxRecDepth 100000 in
set_option maxHeartbeats 2000000 in
theorem fmethod (h : M w F m S) (id : Int) : Calls Tryz.prog 43 #[.pointer (some ⟨m, 0, none⟩), .int .i64 id] w fun e w' => e = .returned (.bool (S.isMethod id)) ∧ Ext w w' := by
  obtain ⟨bt, R⟩ := h.rd
  have c0 := R.c0
  have lt := R.lt
  have C1 := Lib.hid (fun W [x : IsExt w W] => fplain (h.ext x.out) ⟨true, id⟩ 4)
  have C2 := Lib.hid (fun W [x : IsExt w W] i k => fnumber (h.ext x.out) id i k)
  have C3 := Lib.hid (fun W [x : IsExt w W] i => mget (h.ext x.out) id i)
  have C4 := Lib.hid (fun W (x : Ext w W) i => have : IsExt w W := ⟨x⟩; R.fmt W i)
  have E : Hid (S.isMethod id = (S.plainB ⟨true, id⟩ 4 && (S.numB id 0 8 && (S.numB id 1 8 && (S.numB id 2 200 && (decide ((S.get id 0).n ≤ (S.get id 1).n) && ((S.get id 3).obj && decide (S.fmt (S.get id 3).n = 3)))))))) := Lib.hid rfl
  clear h R
  generalize S.isMethod id = res at *
  unfold val at *
  have hcase : (((S.get id 0).n ≤ (S.get id 1).n) ∨ (S.get id 1).n < (S.get id 0).n) ∧ ((S.get id 3).obj = true ∨ (S.get id 3).obj = false) := ⟨by omega, by cases (S.get id 3).obj <;> simp⟩
  have hdt : (S.get id 0).n ≤ (S.get id 1).n → decide ((S.get id 0).n ≤ (S.get id 1).n) = true := fun h => decide_eq_true h
  have hdf : (S.get id 1).n < (S.get id 0).n → decide ((S.get id 0).n ≤ (S.get id 1).n) = false := fun h => decide_eq_false (by omega)
  obtain ⟨hle | hle, ho | ho⟩ := hcase
  all_goals first | (replace hdt := hdt hle; clear hdf) | (replace hdf := hdf hle; clear hdt)
  all_goals
    go_enter Tryz.func43, Tryz.ntmps43
    go_wp2_with (first | (go_at_call 91; refine (C1.out _).mono ?_; rintro e w2 ⟨rfl, x2⟩; obtain ⟨y, rfl⟩ := Ext.trans (is_ext w _) x2; clear x2) | (go_at_call 83; refine (C2.out _ _ _).mono ?_; rintro e w2 ⟨rfl, x2⟩; obtain ⟨y, rfl⟩ := Ext.trans (is_ext w _) x2; clear x2) | (go_at_call 24; refine (C3.out _ _).mono ?_; rintro e w2 ⟨rfl, x2⟩; obtain ⟨y, rfl⟩ := Ext.trans (is_ext w _) x2; clear x2))
    all_goals first
      | (go_ret
         refine ⟨ret_bool ?_, is_ext _ _⟩
         rw [E.out]; first | (simp [*]; done) | (simp_all; done))
      | (refine wp_name (fun W4 hW => ?_)
         have hx : IsExt w W4 := ⟨by rw [hW]; exact is_ext _ _⟩
         have B4 : Blk W4 (w.heap.size + y.blocks.size) 40 #[.bool (S.get id 3).obj, .int .i64 (S.get id 3).n] := by
           rw [hW, ← size_ext]; first | exact Blk.new _ _ _ | (rw [ho]; exact Blk.new _ _ _)
         rw [ho] at B4
         obtain ⟨q1, q2, q3⟩ := B4.rules
         have c0' := (hx.out.below.cell (p := ⟨m, 0, none⟩) lt).trans c0
         have lt' := Nat.lt_of_lt_of_le lt hx.out.below.size
         clear hW c0 lt B4
         generalize w.heap.size + y.blocks.size = g at *
         refine wp_region_ext (by kernel_rfl) (by kernel_rfl) ?_
         repeat (go_big_quiet_step ((first | (go_at_call 24; exact calls_ext (C3.out _ _)) | (go_at_call 180; exact calls_ext (C4.out _ (is_ext _ _) _)))))
         refine wpQuiet_nil ?_
         rintro W ⟨x, rfl⟩
         go_wp2
         go_ret
         refine ⟨ret_bool ?_, is_ext _ _⟩
         rw [E.out]; first | (simp [*]; done) | (simp_all; done) | (simp_all; rfl))
end
end Go.Proofs.YtnhijjcplnomgaaGreat.World
