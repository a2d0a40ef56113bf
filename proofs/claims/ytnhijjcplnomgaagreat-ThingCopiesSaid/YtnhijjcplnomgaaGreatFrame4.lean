/-
  Contracts of package frame (chapter 14): Pop.
-/
import Derived.Test.YtnhijjcplnomgaaGreatFrame3
namespace Go.Proofs.YtnhijjcplnomgaaGreat.World
open Go.RowKit Go.Proofs.YtnhijjcplnomgaaGreat.Plain
set_option linter.unusedVariables false
attribute [local go_sem ↓] Go.wp_at_zero Go.wp_at_succ
namespace MS
def popOK (S : MS) (id : Int) : Bool := S.isFrame id && !decide (S.sp id = 0)
def pop1 (S : MS) (id : Int) : MS := S.set id (6 + S.sp id - 1) nilV
def pop (S : MS) (id : Int) : MS := (S.pop1 id).set id 2 (num (S.sp id - 1))
end MS
section
variable {w w' w2 : World} {F F' F2 : Nat → Prop} {m : Nat} {S S' : MS} {X : MX}
/-! ### what is turned outside of a world's own blocks leaves it alone -/
theorem TsAt.far {P : Nat → Prop} (h : TsAt w F S X) (k : Keep P w w') (hp : ∀ j, P j → ¬ F j) : TsAt w' F S X :=
  ⟨h.bt.keep k (fun hh => hp _ hh h.bF), h.bF, h.L.far k (fun j hj hh => hp _ hh (h.LF j hj)), h.LF, fun i hi => (h.fs i hi).far k (fun j hj hh => hp _ hh (h.fF i hi j hj)), h.fF, h.ap, h.dead.far k (fun j hj hh => hp _ hh (h.dF j hj)), h.dF, h.col.far k (fun j hj hh => hp _ hh (h.colF j hj)), h.colF⟩
theorem MemAt.far {P : Nat → Prop} (h : MemAt w F m S X) (k : Keep P w w') (hp : ∀ j, P j → ¬ F j) : MemAt w' F m S X := by
  obtain ⟨f1, f2, f3, f4⟩ := h.rF
  have r := h.R
  refine ⟨h.ts.far k hp, h.bm.keep k (fun hh => hp _ hh h.mF), h.mF, fun j hj => Nat.lt_of_lt_of_le (h.lt j hj) k.size, h.wf, ?_, h.rF, h.ac, h.st.keep k (fun hh => hp _ hh h.sF), h.sF, Row.far h.li k (fun j hj hh => hp _ hh (h.lF.1 j hj)), h.lF, fun j hj => ?_⟩
  · exact ⟨r.ap, r.re.far k (fun j hj hh => hp _ hh (f1 j hj)), r.wa.far k (fun j hj hh => hp _ hh (f2 j hj)), r.du.far k (fun j hj hh => hp _ hh (f3 j hj)), r.sn.far k (fun j hj hh => hp _ hh (f4 j hj))⟩
  · obtain ⟨cs, b⟩ := h.lT j hj
    exact ⟨cs, b.keep k (fun hh => hp _ hh (h.lF.1 j hj))⟩
theorem M.far {P : Nat → Prop} (h : M w F m S) (k : Keep P w w') (hp : ∀ j, P j → ¬ F j) : M w' F m S := by
  obtain ⟨X, h⟩ := h
  exact ⟨X, h.far k hp⟩
set_option maxRecDepth 100000 in
set_option maxHeartbeats 2000000 in
theorem fpop (h : M w F m S) (hp : S.phase ≠ 1) (id : Int) (hok : S.popOK id = true) : Calls Tryz.prog 42 #[.pointer (some ⟨m, 0, none⟩), .int .i64 id] w fun e w' => e = .returned (.tuple #[val (S.get id (6 + S.sp id - 1)), .bool true]) ∧ M w' F m (S.pop id) ∧ Keep F w w' := by
  have hq : S.isFrame id = true ∧ (S.get id 2).n ≠ 0 := by
    unfold MS.popOK at hok
    simp only [Bool.and_eq_true, Bool.not_eq_true', decide_eq_false_iff_not] at hok
    exact hok
  obtain ⟨hf, hz⟩ := hq
  obtain ⟨b0, b1⟩ : 0 ≤ (S.get id 2).n ∧ (S.get id 2).n ≤ 16 := MS.sp_bd hf
  have hz' : ((S.get id 2).n == 0) = false := beq_eq_false_iff_ne.2 hz
  have hz1 : 1 ≤ (S.get id 2).n := by omega
  have C0 := Lib.hid (fun W [x : IsExt w W] => mnil (h.ext x.out))
  have C1 := Lib.hid (fun W [x : IsExt w W] => fis (h.ext x.out) id)
  have C3 := Lib.hid (fun W [x : IsExt w W] i => mget (h.ext x.out) id i)
  have C4 := Lib.hid (fun W [x : IsExt w W] j => mset (h.ext x.out) hp id j MS.nilV)
  have C5 : Hid (∀ W, M W F m (S.pop1 id) → Calls Tryz.prog 29 #[.pointer (some ⟨m, 0, none⟩), .int .i64 id, .int .i64 2, val (num (S.sp id - 1))] W fun e w' => e = .returned (.bool ((S.pop1 id).setOK id 2 (num (S.sp id - 1)))) ∧ M w' F m (S.pop id) ∧ Keep F W w') := Lib.hid (fun W hM => mset hM (by unfold MS.pop1; rw [MS.set_phase]; exact hp) id 2 _)
  have E1 : Hid (S.set id (6 + (S.get id 2).n - 1) MS.nilV = S.pop1 id) := Lib.hid rfl
  have HF := Lib.hid h.lt
  have hspe : S.sp id = (S.get id 2).n := rfl
  rw [hspe] at C5 ⊢
  rw [hf] at C1
  clear h hspe hok hf hz
  unfold val num MS.nilV objV at *
  generalize S.pop id = P at *
  go_enter Tryz.func42, Tryz.ntmps42
  go_wp2_with fail
  refine (C3.out _ _).mono ?_
  rintro e w1 ⟨rfl, x1⟩
  have B4 := (Blk.new w 40 #[.bool false, .int .i64 0]).ext x1
  have i1 : IsExt w w1 := ⟨(is_ext w _).trans x1⟩
  clear x1
  go_wp2_with fail
  refine (C1.out w1).mono ?_
  rintro e w2 ⟨rfl, x2⟩
  replace B4 := B4.ext x2
  have i2 : IsExt w w2 := ⟨i1.out.trans x2⟩
  clear x2 i1 C1
  go_wp2_with fail
  refine (C3.out w2 _).mono ?_
  rintro e w3 ⟨rfl, x3⟩
  replace B4 := B4.ext x3
  have hlt3 := B4.lt
  have i3 : IsExt w w3 := ⟨i2.out.trans x3⟩
  clear x3 i2 C3
  go_wp2_with fail
  refine (C0.out _).mono ?_
  rintro e w4 ⟨rfl, x4⟩
  have B7 := (Blk.new w3 40 #[.bool (S.get id (6 + (S.get id 2).n - 1)).obj, .int .i64 (S.get id (6 + (S.get id 2).n - 1)).n]).ext x4
  replace B4 := (B4.alloc (.cells #[.bool (S.get id (6 + (S.get id 2).n - 1)).obj, .int .i64 (S.get id (6 + (S.get id 2).n - 1)).n] 40)).ext x4
  have h37 : w.heap.size ≤ w3.heap.size := i3.out.below.size
  have i4 : IsExt w w4 := ⟨(i3.out.alloc _).trans x4⟩
  clear x4 i3 C0
  go_wp2_with fail
  refine (C4.out w4 _).mono ?_
  rintro e w5 ⟨rfl, m5, k5⟩
  have nF : ¬ F w.heap.size := fun hf => by have := HF.out _ hf; omega
  have nF3 : ¬ F w3.heap.size := fun hf => by have := HF.out _ hf; omega
  replace B4 := B4.keep k5 nF
  replace B7 := B7.keep k5 nF3
  have K5 := Lib.hid ((Keep.of_ext i4.out F).trans k5)
  rw [E1.out] at m5
  have M5 := Lib.hid m5
  clear k5 m5 C4 E1 i4
  go_wp2_with fail
  refine (C5.out w5 M5.out).mono ?_
  rintro e w6 ⟨rfl, m6, k6⟩
  replace B4 := B4.keep k6 nF
  replace B7 := B7.keep k6 nF3
  have NF := Lib.hid nF
  have K6 := Lib.hid (K5.out.trans k6)
  have M6 := Lib.hid m6
  obtain ⟨p1, p2, p3⟩ := B4.rules
  obtain ⟨q1, q2, q3⟩ := B7.rules
  clear B4 B7 k6 m6 C5 nF nF3
  have hne : w.heap.size ≠ w3.heap.size := by omega
  obtain ⟨oo, hoo⟩ : ∃ oo, oo = (S.get id (6 + (S.get id 2).n - 1)).obj := ⟨_, rfl⟩
  obtain ⟨nn, hnn⟩ : ∃ nn, nn = (S.get id (6 + (S.get id 2).n - 1)).n := ⟨_, rfl⟩
  rw [← hoo, ← hnn] at q1
  have HOO := Lib.hid hoo
  have HNN := Lib.hid hnn
  clear hoo hnn
  go_wp2_with fail
  refine bodyPost_ret (v := .tuple #[.agg #[.bool oo, .int .i64 nn], .bool true]) (by simp [results, Tryz.results42, go_sem, p1]) rfl ⟨by rw [HOO.out, HNN.out], ?_, ?_⟩
  · exact M6.out.far (((Keep.refl (· = w.heap.size) w6).setCell (p := ⟨w.heap.size, 0, none⟩) rfl _).setCell (p := ⟨w.heap.size, 1, none⟩) rfl _) (fun j e hf => NF.out (e ▸ hf))
  · exact ((K6.out.setNew (p := ⟨w.heap.size, 0, none⟩) (Nat.le_refl _) _).setNew (p := ⟨w.heap.size, 1, none⟩) (Nat.le_refl _) _)
end
end Go.Proofs.YtnhijjcplnomgaaGreat.World
