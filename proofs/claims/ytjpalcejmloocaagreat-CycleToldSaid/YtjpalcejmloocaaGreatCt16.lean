/-
  Mem2, as one text (a claim has at most 60 files).
-/
import Derived.Test.YtjpalcejmloocaaGreatCt15
namespace Go.Proofs.YtjpalcejmloocaaGreat.World
open Go.RowKit Go.Proofs.YtjpalcejmloocaaGreat.Plain
set_option linter.unusedVariables false
attribute [local go_sem ↓] Go.wp_at_zero Go.wp_at_succ
theorem field_obj (a : Bool) (b : Int) (w : World) : (Instr.field 38 (.agg #[.bool a, .int .i64 b]) 0).run Tryz.prog w = .ok (.bool a) w := by kernel_rfl
theorem field_n (a : Bool) (b : Int) (w : World) : (Instr.field 38 (.agg #[.bool a, .int .i64 b]) 1).run Tryz.prog w = .ok (.int .i64 b) w := by kernel_rfl
attribute [go_sem] field_obj field_n
/-- what can be read of a world that is turned -/
structure Rd (w : World) (m bt : Nat) (S : MS) : Prop where
  c0 : w.cell? ⟨m, 0, none⟩ = some (.iface 70 (.pointer (some ⟨bt, 0, none⟩)))
  c11 : w.cell? ⟨m, 11, none⟩ = some (.int .i64 S.last)
  c12 : w.cell? ⟨m, 12, none⟩ = some (.int .i64 S.phase)
  lt : m < w.heap.size
  has : ∀ W [IsExt w W], ∀ i, Calls Tryz.prog 174 #[.pointer (some ⟨bt, 0, none⟩), .int .i64 i] W fun e w' => e = .returned (.bool (S.has i)) ∧ Ext W w'
  fmt : ∀ W [IsExt w W], ∀ i, Calls Tryz.prog 173 #[.pointer (some ⟨bt, 0, none⟩), .int .i64 i] W fun e w' => e = .returned (.int .i64 (S.fmt i)) ∧ Ext W w'
  size : ∀ W [IsExt w W], ∀ i, Calls Tryz.prog 184 #[.pointer (some ⟨bt, 0, none⟩), .int .i64 i] W fun e w' => e = .returned (.int .i64 (S.size i)) ∧ Ext W w'
  field : ∀ W [IsExt w W], ∀ i j, S.has i = true → 0 ≤ j → j < S.size i → S.fmt i ≠ 3 → Calls Tryz.prog 171 #[.pointer (some ⟨bt, 0, none⟩), .int .i64 i, .int .i64 j] W fun e w' => e = .returned (val (S.field i j)) ∧ Ext W w'
section
variable {w w' w2 : World} {F F' F2 : Nat → Prop} {m : Nat} {S S' : MS} {X : MX}
theorem M.rd (h : M w F m S) : ∃ bt, Rd w m bt S := by
  obtain ⟨X, h⟩ := h
  obtain ⟨q1, _, q3⟩ := h.bm.rules
  refine ⟨X.bt, q1 0, q1 11, q1 12, q3, fun W x i => thas (h.ext x.out).ts h.wf i, fun W x i => tfmt (h.ext x.out).ts h.wf i, fun W x i => tsize (h.ext x.out).ts h.wf i, fun W x i j h1 h2 h3 h4 => ?_⟩
  have hf : S.isField i j = true := by
    unfold MS.isField
    rw [h1, decide_eq_false h4, decide_eq_true ⟨h2, h3⟩]; rfl
  obtain ⟨a1, a2, a3, a4, _, _⟩ := MS.field_lt h.wf hf
  obtain ⟨k, rfl⟩ := Int.eq_ofNat_of_zero_le a1
  obtain ⟨l, rfl⟩ := Int.eq_ofNat_of_zero_le a3
  have b1 := h.wf.nF k (by omega)
  have b2 := h.wf.len
  have b3 := h.wf.last
  have a4 : (l : Int) < ((tAt S.L k).F.length : Nat) := a4
  exact tfield (h.ext x.out).ts k l (by omega) (by omega) (by omega) (by omega)
set_option maxRecDepth 100000 in
set_option maxHeartbeats 1000000 in
theorem mfield (h : M w F m S) (i j : Int) : Calls Tryz.prog 27 #[.pointer (some ⟨m, 0, none⟩), .int .i64 i, .int .i64 j] w fun e w' => e = .returned (.bool (S.isField i j)) ∧ Ext w w' := by
  obtain ⟨bt, R⟩ := h.rd
  have c0 := R.c0
  have lt := R.lt
  have C1 := Lib.hid (fun W [IsExt w W] => R.has W i)
  have C2 := Lib.hid (fun W [IsExt w W] => R.fmt W i)
  have C3 := Lib.hid (fun W [IsExt w W] => R.size W i)
  have E : Hid (S.isField i j = (S.has i && (!decide (S.fmt i = 3) && decide (0 ≤ j ∧ j < S.size i)))) := Lib.hid rfl
  clear h R
  generalize S.has i = a at *
  generalize S.fmt i = f at *
  generalize S.size i = s at *
  go_enter Tryz.func27, Tryz.ntmps27
  go_wp2_with (first | (go_at_call 174; refine (C1.out _).mono ?_; rintro e w2 ⟨rfl, x2⟩; obtain ⟨y, rfl⟩ := x2) | (go_at_call 173; refine (C2.out _).mono ?_; rintro e w2 ⟨rfl, x2⟩; obtain ⟨y, rfl⟩ := x2) | (go_at_call 184; refine (C3.out _).mono ?_; rintro e w2 ⟨rfl, x2⟩; obtain ⟨y, rfl⟩ := x2))
  all_goals (go_ret; refine ⟨ret_bool ?_, is_ext _ _⟩; rw [E.out]; simp [*] <;> (intros; omega))
/-! ### sizes and formats of classes -/
theorem msize (v : PV) : Calls Tryz.prog 94 #[val v] w fun e w' => e = .returned (.bool (MS.sizeOK v)) ∧ Ext w w' := by
  obtain ⟨o, n⟩ := v
  unfold val
  go_enter Tryz.func94, Tryz.ntmps94
  go_wp2
  all_goals (go_ret; refine ⟨ret_bool ?_, is_ext _ _⟩; unfold MS.sizeOK; simp [*] <;> (intros; omega))
theorem mformat (v : PV) : Calls Tryz.prog 95 #[val v] w fun e w' => e = .returned (.bool (MS.fmtOK v)) ∧ Ext w w' := by
  obtain ⟨o, n⟩ := v
  unfold val
  go_enter Tryz.func95, Tryz.ntmps95
  go_wp2
  all_goals (go_ret; refine ⟨ret_bool ?_, is_ext _ _⟩; unfold MS.fmtOK; simp [*] <;> (intros; omega))
set_option maxRecDepth 100000 in
set_option maxHeartbeats 1000000 in
theorem mget (h : M w F m S) (i j : Int) : Calls Tryz.prog 14 #[.pointer (some ⟨m, 0, none⟩), .int .i64 i, .int .i64 j] w fun e w' => e = .returned (val (S.get i j)) ∧ Ext w w' := by
  obtain ⟨bt, R⟩ := h.rd
  have c0 := R.c0
  have lt := R.lt
  have C1 := Lib.hid (fun W [x : IsExt w W] => mfield (h.ext x.out) i j)
  have C2 : Hid (∀ W [IsExt w W], S.isField i j = true → Calls Tryz.prog 171 #[.pointer (some ⟨bt, 0, none⟩), .int .i64 i, .int .i64 j] W fun e w' => e = .returned (val (S.field i j)) ∧ Ext W w') := Lib.hid (by
    intro W _ hf
    unfold MS.isField at hf
    simp only [Bool.and_eq_true, Bool.not_eq_true', decide_eq_false_iff_not, decide_eq_true_eq] at hf
    exact R.field W i j hf.1 hf.2.2.1 hf.2.2.2 hf.2.1)
  have E : Hid (S.get i j = if S.isField i j then S.field i j else dV) := Lib.hid rfl
  clear h R
  unfold val at *
  generalize S.isField i j = a at *
  generalize S.field i j = f at *
  cases a
  · go_enter Tryz.func14, Tryz.ntmps14
    go_wp2_with (first | (go_at_call 27; refine (C1.out _).mono ?_; rintro e w2 ⟨rfl, x2⟩; obtain ⟨y, rfl⟩ := x2))
    rw [E.out]
    refine bodyPost_ret (v := .agg #[.bool false, .int .i64 0]) (by simp [results, Tryz.results14, go_sem]) rfl ⟨rfl, is_ext _ _⟩
  · go_enter Tryz.func14, Tryz.ntmps14
    go_wp2_with (first | (go_at_call 27; refine (C1.out _).mono ?_; rintro e w2 ⟨rfl, x2⟩; obtain ⟨y, rfl⟩ := x2) | (go_at_call 171; refine (C2.out _ (by trivial)).mono ?_; rintro e w2 ⟨rfl, x2⟩; obtain ⟨y, rfl⟩ := x2))
    rw [E.out]
    refine bodyPost_ret (v := .agg #[.bool f.obj, .int .i64 f.n]) (by simp [results, Tryz.results14, go_sem]) rfl ⟨rfl, is_ext _ _⟩
theorem fitsE (v : Int) : Calls Tryz.prog 110 #[.int .i64 v] w fun e w' => e = .returned (.bool (fitsB v)) ∧ Ext w w' := (Word.fits v w).mono fun _ _ ⟨a, b⟩ => ⟨a, b ▸ Ext.refl _⟩
set_option maxRecDepth 100000 in
set_option maxHeartbeats 1000000 in
theorem mmay (h : M w F m S) (v : PV) : Calls Tryz.prog 242 #[.pointer (some ⟨m, 0, none⟩), val v] w fun e w' => e = .returned (.bool (S.may v)) ∧ Ext w w' := by
  obtain ⟨bt, R⟩ := h.rd
  obtain ⟨o, n⟩ := v
  have c0 := R.c0
  have lt := R.lt
  have C1 := Lib.hid (fun W [IsExt w W] => R.has W n)
  have C2 := Lib.hid (fun W => @fitsE W n)
  have E : Hid (S.may ⟨o, n⟩ = if o then S.has n else fitsB n) := Lib.hid rfl
  clear h R
  unfold val
  generalize S.has n = a at *
  generalize fitsB n = b at *
  cases o
  · go_enter Tryz.func242, Tryz.ntmps242
    go_wp2_with fail
    refine wp_region_ext (by kernel_rfl) (by kernel_rfl) ?_
    repeat (go_big_quiet_step ((first | (go_at_call 110; exact calls_ext (C2.out _)))))
    refine wpQuiet_nil ?_
    rintro W ⟨x, rfl⟩
    go_wp2
    go_ret
    exact ⟨ret_bool (by rw [E.out]; rfl), is_ext _ _⟩
  · cases a
    all_goals
      go_enter Tryz.func242, Tryz.ntmps242
      go_wp2_with fail
      refine wp_region_ext (by kernel_rfl) (by kernel_rfl) ?_
      repeat (go_big_quiet_step ((first | (go_at_call 174; exact calls_ext (C1.out _)))))
      refine wpQuiet_nil ?_
      rintro W ⟨x, rfl⟩
      go_wp2
      go_ret
      exact ⟨ret_bool (by rw [E.out]; rfl), is_ext _ _⟩
set_option maxRecDepth 100000 in
set_option maxHeartbeats 1000000 in
theorem misclass (h : M w F m S) (i : Int) : Calls Tryz.prog 67 #[.pointer (some ⟨m, 0, none⟩), .int .i64 i] w fun e w' => e = .returned (.bool (S.isClass i)) ∧ Ext w w' := by
  obtain ⟨bt, R⟩ := h.rd
  have c0 := R.c0
  have lt := R.lt
  have C1 := Lib.hid (fun W [IsExt w W] => R.has W i)
  have C2 := Lib.hid (fun W [IsExt w W] => R.fmt W i)
  have C3 := Lib.hid (fun W [IsExt w W] => R.size W i)
  have C4 := Lib.hid (fun W [IsExt w W] => R.field W i)
  have C5 := Lib.hid (fun W v => @msize W v)
  have C6 := Lib.hid (fun W v => @mformat W v)
  have E : Hid (S.isClass i = (S.has i && (decide (S.fmt i = 1) && (decide (5 ≤ S.size i) && (MS.sizeOK (S.field i 3) && MS.fmtOK (S.field i 4)))))) := Lib.hid rfl
  clear h R
  generalize S.has i = a at *
  generalize S.fmt i = f at *
  generalize S.size i = s at *
  by_cases h0 : a = true ∧ f = 1 ∧ 5 ≤ s
  · obtain ⟨rfl, rfl, h1⟩ := h0
    replace C4 := Lib.hid (fun W [IsExt w W] j (h0 : 0 ≤ j) (h5 : j < 5) => C4.out W j rfl h0 (by omega) (by omega))
    generalize hv3 : MS.sizeOK (S.field i 3) = v3 at *
    generalize hv4 : MS.fmtOK (S.field i 4) = v4 at *
    go_enter Tryz.func67, Tryz.ntmps67
    go_wp2_with (first | (go_at_call 174; refine (C1.out _).mono ?_; rintro e w2 ⟨rfl, x2⟩; obtain ⟨y, rfl⟩ := x2) | (go_at_call 173; refine (C2.out _).mono ?_; rintro e w2 ⟨rfl, x2⟩; obtain ⟨y, rfl⟩ := x2) | (go_at_call 184; refine (C3.out _).mono ?_; rintro e w2 ⟨rfl, x2⟩; obtain ⟨y, rfl⟩ := x2) | (go_at_call 171; refine (C4.out _ _ (by omega) (by omega)).mono ?_; rintro e w2 ⟨rfl, x2⟩; obtain ⟨y, rfl⟩ := x2) | (go_at_call 94; refine (C5.out _ _).mono ?_; rintro e w2 ⟨rfl, x2⟩; obtain ⟨y, rfl⟩ := x2) | (go_at_call 95; refine (C6.out _ _).mono ?_; rintro e w2 ⟨rfl, x2⟩; obtain ⟨y, rfl⟩ := x2))
    all_goals (go_ret; refine ⟨ret_bool ?_, is_ext _ _⟩; rw [E.out]; simp [*] <;> (intros; omega))
  · clear C4
    have h0 : a = true → f = 1 → ¬ 5 ≤ s := fun x y z => h0 ⟨x, y, z⟩
    have H0 := Lib.hid h0
    clear h0
    have h9 : a = true → f = 1 → (s < 5) := fun x y => by have := H0.out x y; omega
    cases a
    · go_enter Tryz.func67, Tryz.ntmps67
      go_wp2_with (first | (go_at_call 174; refine (C1.out _).mono ?_; rintro e w2 ⟨rfl, x2⟩; obtain ⟨y, rfl⟩ := x2))
      go_ret
      exact ⟨ret_bool (by rw [E.out]; rfl), is_ext _ _⟩
    · by_cases hf : f = 1
      · subst hf
        have h9 := h9 rfl rfl
        go_enter Tryz.func67, Tryz.ntmps67
        go_wp2_with (first | (go_at_call 174; refine (C1.out _).mono ?_; rintro e w2 ⟨rfl, x2⟩; obtain ⟨y, rfl⟩ := x2) | (go_at_call 173; refine (C2.out _).mono ?_; rintro e w2 ⟨rfl, x2⟩; obtain ⟨y, rfl⟩ := x2) | (go_at_call 184; refine (C3.out _).mono ?_; rintro e w2 ⟨rfl, x2⟩; obtain ⟨y, rfl⟩ := x2))
        go_ret
        exact ⟨ret_bool (by rw [E.out]; simp; intros; omega), is_ext _ _⟩
      · clear h9
        have hf' : (f == 1) = false := beq_eq_false_iff_ne.2 hf
        go_enter Tryz.func67, Tryz.ntmps67
        go_wp2_with (first | (go_at_call 174; refine (C1.out _).mono ?_; rintro e w2 ⟨rfl, x2⟩; obtain ⟨y, rfl⟩ := x2) | (go_at_call 173; refine (C2.out _).mono ?_; rintro e w2 ⟨rfl, x2⟩; obtain ⟨y, rfl⟩ := x2))
        go_ret
        exact ⟨ret_bool (by rw [E.out]; simp [hf]), is_ext _ _⟩
set_option maxRecDepth 100000 in
set_option maxHeartbeats 1000000 in
theorem mmade (h : M w F m S) (i : Int) : Calls Tryz.prog 42 #[.pointer (some ⟨m, 0, none⟩), .int .i64 i] w fun e w' => e = .returned (.tuple #[.int .i64 (S.madeN i), .int .i64 (S.madeF i)]) ∧ Ext w w' := by
  obtain ⟨bt, R⟩ := h.rd
  have c0 := R.c0
  have lt := R.lt
  have C1 := Lib.hid (fun W [x : IsExt w W] => misclass (h.ext x.out) i)
  have C4 : Hid (∀ W [IsExt w W], ∀ j, S.isClass i = true → 0 ≤ j → j < 5 → Calls Tryz.prog 171 #[.pointer (some ⟨bt, 0, none⟩), .int .i64 i, .int .i64 j] W fun e w' => e = .returned (val (S.field i j)) ∧ Ext W w') := Lib.hid (by
    intro W _ j hc h0 h1
    unfold MS.isClass at hc
    simp only [Bool.and_eq_true, decide_eq_true_eq] at hc
    exact R.field W i j hc.1 h0 (by omega) (by omega))
  have E1 : Hid (S.madeN i = if S.isClass i then (S.field i 3).n else 0) := Lib.hid rfl
  have E2 : Hid (S.madeF i = if S.isClass i then (S.field i 4).n else 0) := Lib.hid rfl
  clear h R
  generalize S.isClass i = a at *
  cases a
  · go_enter Tryz.func42, Tryz.ntmps42
    go_wp2_with (first | (go_at_call 67; refine (C1.out _).mono ?_; rintro e w2 ⟨rfl, x2⟩; obtain ⟨y, rfl⟩ := x2))
    go_ret2
    exact ⟨by rw [E1.out, E2.out]; rfl, is_ext _ _⟩
  · replace C4 := Lib.hid (fun W [IsExt w W] j (h0 : 0 ≤ j) (h5 : j < 5) => C4.out W j rfl h0 h5)
    unfold val at *
    go_enter Tryz.func42, Tryz.ntmps42
    go_wp2_with (first | (go_at_call 67; refine (C1.out _).mono ?_; rintro e w2 ⟨rfl, x2⟩; obtain ⟨y, rfl⟩ := x2))
    refine wp_region_from (w0 := w) (is_ext _ _) (by kernel_rfl) (by kernel_rfl) ?_
    repeat (go_big_quiet_step ((first | (go_at_call 171; exact calls_ext (C4.out _ _ (by omega) (by omega))))))
    refine wpQuiet_nil ?_
    rintro W ⟨x, rfl⟩
    go_wp2
    go_ret2
    exact ⟨by rw [E1.out, E2.out]; rfl, is_ext _ _⟩
end
end Go.Proofs.YtjpalcejmloocaaGreat.World
