/-
  Contracts of simple.Do: number, setfield.
-/
import Derived.Test.YtnhijjcplnomgaaGreatSimple
import Derived.WalkMore
import Derived.ScopeJumps
namespace Go.Proofs.YtnhijjcplnomgaaGreat.World
open Go.RowKit Go.Proofs.YtnhijjcplnomgaaGreat.Plain
set_option linter.unusedVariables false
attribute [local go_sem ↓] Go.wp_at_zero Go.wp_at_succ
namespace MS
/-- setfield: of the receiver's field a, by what lies on top -/
def sfOK (S : MS) (id a : Int) : Bool := (S.pop id).hasF (S.get id 4) a && (!decide (0 ≤ (S.get id 4).n ∧ (S.get id 4).n < 23) && (S.pop id).setOK (S.get id 4).n a (S.get id (6 + S.sp id - 1)))
def sf (S : MS) (id a : Int) : MS := if ((S.pop id).hasF (S.get id 4) a && !decide (0 ≤ (S.get id 4).n ∧ (S.get id 4).n < 23)) = true then (S.pop id).set (S.get id 4).n a (S.get id (6 + S.sp id - 1)) else S.pop id
end MS
/-- a scope whose gotos lead forward alone -/
theorem wp_scope_once {P : Program} {a : Act} {w : World} {Q : Exit → Act → World → Prop} {c rest : Code} (l : Nat) (hf : findLabel c l = some rest)
    (h : ∀ J : Act → World → Prop, (∀ a w, rest.wp P (Exit.noGoto Q) a w → J a w) → c.wp P (Exit.jump l J Q) a w) : (Code.scope c).wp P Q a w :=
  wp_scope_jumps l (fun a w => rest.wp P (Exit.noGoto Q) a w) (fun _ _ => 0) hf (h _ (fun _ _ h => h)) (fun a w h => wp_mono h (fun e a' w' h' => by
    cases e <;> first | exact h' | exact h'.elim))
section
variable {w w' w2 : World} {F F' F2 : Nat → Prop} {m : Nat} {S S' : MS} {X : MX}
set_option maxRecDepth 100000 in
set_option maxHeartbeats 2000000 in
/-- a number is pushed -/
theorem sdo9 (h : M w F m S) (hp : S.phase ≠ 1) {id : Int} (hf : S.isFrame id = true) (a b : Int) (ha : -1000 ≤ a ∧ a ≤ 1000) : Calls Tryz.prog 23 #[.pointer (some ⟨m, 0, none⟩), .int .i64 id, .agg #[.int .i64 9, .int .i64 a, .int .i64 b]] w fun e w' => e = .returned (.bool (S.pushOK id (num (a - 128)))) ∧ M w' F m (S.push id (num (a - 128))) ∧ Keep F w w' := by
  have C1 := Lib.hid (fun W [x : IsExt w W] => fis (h.ext x.out) id)
  have C2 := Lib.hid (fun W [x : IsExt w W] => mget (h.ext x.out) id 4)
  have C3 := Lib.hid (fun W [x : IsExt w W] => fpush (h.ext x.out) hp id (num (a - 128)))
  have HF := Lib.hid h.lt
  rw [hf] at C1
  obtain ⟨a1, a2⟩ := ha
  clear h hf hp
  unfold val num at *
  generalize S.push id ⟨false, a - 128⟩ = P at *
  generalize S.pushOK id ⟨false, a - 128⟩ = ok at *
  obtain ⟨mo, hmo⟩ : ∃ o, o = (S.get id 4).obj := ⟨_, rfl⟩
  obtain ⟨mn, hmn⟩ : ∃ o, o = (S.get id 4).n := ⟨_, rfl⟩
  rw [← hmo, ← hmn] at C2
  clear hmo hmn
  go_enter Tryz.func23, Tryz.ntmps23
  go_wp2_with fail
  go_step3
  go_wp2_with fail
  refine (C1.out _).mono ?_
  rintro e w1 ⟨rfl, x1⟩
  have B5 := ((Blk.new w 50 #[.int .i64 9, .int .i64 a, .int .i64 b]).alloc (.cells #[.bool false, .int .i64 0] 40)).ext x1
  replace B5 := B5
  have B7 := (Blk.at_ (w := w.alloc (.cells #[.int .i64 9, .int .i64 a, .int .i64 b] 50)) (g := w.heap.size + 1) 40 #[.bool false, .int .i64 0] (by simp)).ext x1
  have i1 : IsExt w w1 := ⟨(((Ext.refl w).alloc _).alloc _).trans x1⟩
  clear x1 C1
  go_wp2_with fail
  refine (C2.out _).mono ?_
  rintro e w2 ⟨rfl, x2⟩
  replace B5 := (B5.ext x2).alloc (.cells #[.bool mo, .int .i64 mn] 40)
  replace B7 := (B7.ext x2).alloc (.cells #[.bool mo, .int .i64 mn] 40)
  have i2 : IsExt w w2 := ⟨i1.out.trans x2⟩
  obtain ⟨p1, p2, p3⟩ := B5.rules
  obtain ⟨q1, q2, q3⟩ := B7.rules
  clear x2 C2 i1
  generalize hg5 : w.heap.size = g at *
  have hne : g ≠ g + 1 := by omega
  go_wp2_with fail
  refine calls_name (fun w3 hW => ?_)
  have i3 : IsExt w w3 := ⟨by rw [hW]; exact ((i2.out.alloc _).setNew (p := ⟨g + 1, 0, none⟩) (show w.heap.size ≤ g + 1 by omega) _).setNew (p := ⟨g + 1, 1, none⟩) (show w.heap.size ≤ g + 1 by omega) _⟩
  clear hW i2 p1 p2 p3 q1 q2 q3
  refine (C3.out w3).mono ?_
  rintro e w4 ⟨rfl, m4, k4⟩
  have R := Lib.hid (show M w4 F m P ∧ Keep F w w4 from ⟨m4, (Keep.of_ext i3.out F).trans k4⟩)
  clear m4 k4 C3 i3
  go_wp2_with fail
  rw [Exit.noGoto_ret]
  go_ret
  exact ⟨ret_bool (by simp), R.out⟩
set_option maxRecDepth 100000 in
set_option maxHeartbeats 2000000 in
/-- a field of the receiver is set -/
theorem sdo6 (h : M w F m S) (hp : S.phase ≠ 1) {id : Int} (hf : S.isFrame id = true) (hok : S.popOK id = true) (a b : Int) : Calls Tryz.prog 23 #[.pointer (some ⟨m, 0, none⟩), .int .i64 id, .agg #[.int .i64 6, .int .i64 a, .int .i64 b]] w fun e w' => e = .returned (.bool (S.sfOK id a)) ∧ M w' F m (S.sf id a) ∧ Keep F w w' := by
  have C1 := Lib.hid (fun W [x : IsExt w W] => fis (h.ext x.out) id)
  have C2 := Lib.hid (fun W [x : IsExt w W] => mget (h.ext x.out) id 4)
  have CD : Hid (∀ W, Calls Tryz.prog 52 #[.int .i64 6] W fun e w' => e = .returned (.bool true) ∧ Ext W w') := Lib.hid (fun W => sdoes W 6 (by omega))
  have C3 := Lib.hid (fun W [x : IsExt w W] => fpop (h.ext x.out) hp id hok)
  have HF := Lib.hid h.lt
  have hp1 : (S.pop id).phase ≠ 1 := by unfold MS.pop MS.pop1; rw [MS.set_phase, MS.set_phase]; exact hp
  rw [hf] at C1
  have EO : Hid (S.sfOK id a = ((S.pop id).hasF (S.get id 4) a && (!decide (0 ≤ (S.get id 4).n ∧ (S.get id 4).n < 23) && (S.pop id).setOK (S.get id 4).n a (S.get id (6 + S.sp id - 1))))) := Lib.hid rfl
  have ES : Hid (S.sf id a = if ((S.pop id).hasF (S.get id 4) a && !decide (0 ≤ (S.get id 4).n ∧ (S.get id 4).n < 23)) = true then (S.pop id).set (S.get id 4).n a (S.get id (6 + S.sp id - 1)) else S.pop id) := Lib.hid rfl
  clear h hf hp hok
  generalize S.sfOK id a = res at *
  generalize S.sf id a = RS at *
  generalize S.get id (6 + S.sp id - 1) = v at *
  generalize S.get id 4 = me at *
  generalize S.pop id = P at *
  obtain ⟨vo, vn⟩ := v
  obtain ⟨mo, mn⟩ := me
  unfold val at *
  go_enter Tryz.func23, Tryz.ntmps23
  go_wp2_with fail
  refine wp_scope_once 0 rfl (fun J hJ => ?_)
  go_wp2_with fail
  refine (C1.out _).mono ?_
  rintro e w1 ⟨rfl, x1⟩
  have B5 := ((Blk.new w 50 #[.int .i64 6, .int .i64 a, .int .i64 b]).alloc (.cells #[.bool false, .int .i64 0] 40)).ext x1
  have B7 := (Blk.at_ (w := w.alloc (.cells #[.int .i64 6, .int .i64 a, .int .i64 b] 50)) (g := w.heap.size + 1) 40 #[.bool false, .int .i64 0] (by simp)).ext x1
  have i1 : IsExt w w1 := ⟨(((Ext.refl w).alloc _).alloc _).trans x1⟩
  clear x1 C1
  go_wp2_with fail
  refine (C2.out _).mono ?_
  rintro e w2 ⟨rfl, x2⟩
  have l7 := (B7.ext x2).lt
  replace B5 := (B5.ext x2).alloc (.cells #[.bool mo, .int .i64 mn] 40)
  replace B7 := (B7.ext x2).alloc (.cells #[.bool mo, .int .i64 mn] 40)
  have B9 := Blk.new w2 40 #[.bool mo, .int .i64 mn]
  have i2 : IsExt w w2 := ⟨i1.out.trans x2⟩
  have l2 := i2.out.below.size
  obtain ⟨p1, p2, p3⟩ := B5.rules
  clear x2 C2 i1
  generalize hg5 : w.heap.size = g at *
  go_wp2_with fail
  refine wp_goto ?_
  refine ⟨rfl, hJ _ _ ?_⟩
  refine wp_name (fun w3 hW => ?_)
  have i3 : IsExt w w3 := ⟨by rw [hW]; exact i2.out.alloc _⟩
  rw [← hW] at B5 B7
  replace B9 : Blk w3 w2.heap.size 40 #[.bool mo, .int .i64 mn] := by rw [hW]; exact B9
  obtain ⟨p1, p2, p3⟩ := B5.rules
  clear hW i2 hJ
  go_wp2_with fail
  refine (CD.out w3).mono ?_
  rintro e w4 ⟨rfl, x4⟩
  replace B5 := B5.ext x4
  replace B7 := B7.ext x4
  replace B9 := B9.ext x4
  have i4 : IsExt w w4 := ⟨i3.out.trans x4⟩
  clear x4 CD i3 p1 p2 p3
  go_wp2_with fail
  refine (C3.out w4).mono ?_
  rintro e w5 ⟨rfl, m5, k5⟩
  have nF : ∀ k, g ≤ k → ¬ F k := fun k hk hf => by have := HF.out _ hf; omega
  replace B5 := B5.keep k5 (nF g (Nat.le_refl _))
  replace B7 := B7.keep k5 (nF (g + 1) (by omega))
  replace B9 := B9.keep k5 (nF _ l2)
  have K5 := (Keep.of_ext i4.out F).trans k5
  have l9 := i4.out.below.size
  have hne : g ≠ g + 1 := by omega
  have hne' : g + 1 ≠ g := by omega
  have hne9 : w2.heap.size ≠ g + 1 := by omega
  have hne9' : g + 1 ≠ w2.heap.size := by omega
  obtain ⟨q1, q2, q3⟩ := B7.rules
  clear k5 C3 i4
  go_upto_region 36 with (fail)
  refine wp_name (fun w6 hW => ?_)
  have B5' : Blk w6 g 50 #[.int .i64 6, .int .i64 a, .int .i64 b] := by rw [hW]; exact (B5.far hne _).far hne _
  have B7' : Blk w6 (g + 1) 40 #[.bool vo, .int .i64 vn] := by rw [hW]; exact (B7.set 0 _).set 1 _
  have B9' : Blk w6 w2.heap.size 40 #[.bool mo, .int .i64 mn] := by rw [hW]; exact (B9.far hne9 _).far hne9 _
  have M6 : M w6 F m P := by rw [hW]; exact m5.far (((Keep.refl (· = g + 1) w5).setCell (p := ⟨g + 1, 0, none⟩) rfl _).setCell (p := ⟨g + 1, 1, none⟩) rfl _) (fun j e hf => nF (g + 1) (by omega) (e ▸ hf))
  have K6 : Keep F w w6 := by rw [hW]; exact (K5.setNew (p := ⟨g + 1, 0, none⟩) (show w.heap.size ≤ g + 1 by omega) _).setNew (p := ⟨g + 1, 1, none⟩) (show w.heap.size ≤ g + 1 by omega) _
  clear hW B5 B7 B9 m5 K5 q1 q2 q3
  have CH := Lib.hid (fun W [x : IsExt w6 W] => shas (M6.ext x.out) ⟨mo, mn⟩ a)
  have CI := Lib.hid (fun W [x : IsExt w6 W] => misfirst (M6.ext x.out) mn)
  have CW := Lib.hid (fun W [x : IsExt w6 W] => mset (M6.ext x.out) hp1 mn a ⟨vo, vn⟩)
  have E5 := Lib.hid B5'
  have E7 := Lib.hid B7'
  have E9 := Lib.hid B9'
  have MH := Lib.hid M6
  have KH := Lib.hid K6
  obtain ⟨p1, p2, p3⟩ := E5.out.rules
  obtain ⟨q1, q2, q3⟩ := E7.out.rules
  obtain ⟨r1, r2, r3⟩ := E9.out.rules
  have i6 : IsExt w6 w6 := ⟨Ext.refl _⟩
  unfold val at CH CW
  clear B5' B7' B9' M6 K6 hne hne' hne9 hne9' l2 l7 l9 hp1 nF
  generalize w2.heap.size = g9 at *
  generalize P.setOK mn a ⟨vo, vn⟩ = so at *
  generalize P.set mn a ⟨vo, vn⟩ = P2 at *
  cases hh : P.hasF ⟨mo, mn⟩ a with
  | false =>
    rw [hh] at EO ES CH
    have er : res = false := EO.out
    have es : RS = P := ES.out
    subst er es
    clear EO ES CI CW hh
    go_wp2_with fail
    refine (CH.out _).mono ?_
    rintro e w7 ⟨rfl, x7⟩
    have R := Lib.hid (show M w7 F m RS ∧ Keep F w w7 from ⟨MH.out.ext x7, KH.out.trans (Keep.of_ext x7 F)⟩)
    clear x7 CH
    go_wp2_with fail
    rw [Exit.noGoto_ret]
    go_ret
    exact ⟨rfl, R.out⟩
  | true =>
    rw [hh] at EO ES CH
    cases hi : decide (0 ≤ mn ∧ mn < 23) with
    | true =>
      rw [hi] at EO ES CI
      have er : res = false := EO.out
      have es : RS = P := ES.out
      subst er es
      clear EO ES CW hh hi
      go_wp2_with fail
      refine (CH.out _).mono ?_
      rintro e w7 ⟨rfl, x7⟩
      have i7 : IsExt w6 w7 := ⟨x7⟩
      obtain ⟨p1, p2, p3⟩ := (E5.out.ext x7).rules
      obtain ⟨r1, r2, r3⟩ := (E9.out.ext x7).rules
      clear x7 CH i6
      go_wp2_with fail
      refine (CI.out _).mono ?_
      rintro e w8 ⟨rfl, x8⟩
      have R := Lib.hid (show M w8 F m RS ∧ Keep F w w8 from ⟨(MH.out.ext i7.out).ext x8, (KH.out.trans (Keep.of_ext i7.out F)).trans (Keep.of_ext x8 F)⟩)
      clear x8 CI
      go_wp2_with fail
      rw [Exit.noGoto_ret]
      go_ret
      exact ⟨rfl, R.out⟩
    | false =>
      rw [hi] at EO ES CI
      have er : res = so := EO.out
      have es : RS = P2 := ES.out
      subst er es
      clear EO ES hh hi
      go_wp2_with fail
      refine (CH.out _).mono ?_
      rintro e w7 ⟨rfl, x7⟩
      have i7 : IsExt w6 w7 := ⟨x7⟩
      obtain ⟨p1, p2, p3⟩ := (E5.out.ext x7).rules
      obtain ⟨q1, q2, q3⟩ := (E7.out.ext x7).rules
      obtain ⟨r1, r2, r3⟩ := (E9.out.ext x7).rules
      clear x7 CH i6
      go_wp2_with fail
      refine (CI.out _).mono ?_
      rintro e w8 ⟨rfl, x8⟩
      have i8 : IsExt w6 w8 := ⟨i7.out.trans x8⟩
      obtain ⟨p1, p2, p3⟩ := (E5.out.ext i8.out).rules
      obtain ⟨q1, q2, q3⟩ := (E7.out.ext i8.out).rules
      obtain ⟨r1, r2, r3⟩ := (E9.out.ext i8.out).rules
      clear x8 CI i7
      go_wp2_with fail
      refine (CW.out _).mono ?_
      rintro e w9 ⟨rfl, m9, k9⟩
      have R := Lib.hid (show M w9 F m RS ∧ Keep F w w9 from ⟨m9, (KH.out.trans (Keep.of_ext i8.out F)).trans k9⟩)
      clear m9 k9 CW
      go_wp2_with fail
      rw [Exit.noGoto_ret]
      go_ret
      exact ⟨ret_bool (by simp), R.out⟩
end
end Go.Proofs.YtnhijjcplnomgaaGreat.World
