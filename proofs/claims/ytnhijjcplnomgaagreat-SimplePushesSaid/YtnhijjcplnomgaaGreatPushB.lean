/-
  Simple, SimpleDo, SimpleDo4, SimpleDo2, SimpleDo3, Own4, Closure, SimpleList, MethK, MethL, SimpleFields0, SimplePushes0, as one text (a claim has at most 60 files).
-/
import Derived.Test.YtnhijjcplnomgaaGreatSetup
import Derived.WalkMore
import Derived.ScopeJumps
import Derived.Test.YtnhijjcplnomgaaGreatFrame6
import Derived.Test.YtnhijjcplnomgaaGreatMeth
import Derived.Test.YtnhijjcplnomgaaGreatStart
import Derived.Deep.AppendLies
import Derived.Test.YtnhijjcplnomgaaGreatPushA
namespace Go.Proofs.YtnhijjcplnomgaaGreat.World
open Go.RowKit Go.Proofs.YtnhijjcplnomgaaGreat.Plain
set_option linter.unusedVariables false
attribute [local go_sem ↓] Go.wp_at_zero Go.wp_at_succ
namespace MS
/-- a field of a value that is a thing (from 0 on) -/
def hasF (S : MS) (v : PV) (i : Int) : Bool := v.obj && (S.has v.n && (!decide (S.fmt v.n = 3) && decide (i < S.size v.n)))
end MS
section
variable {w w' w2 : World} {F F' F2 : Nat → Prop} {m : Nat} {S S' : MS} {X : MX}
set_option maxRecDepth 100000 in
set_option maxHeartbeats 2000000 in
theorem shas (h : M w F m S) (v : PV) (i : Int) : Calls Tryz.prog 47 #[.pointer (some ⟨m, 0, none⟩), val v, .int .i64 i] w fun e w' => e = .returned (.bool (S.hasF v i)) ∧ Ext w w' := by
  obtain ⟨bt, R⟩ := h.rd
  obtain ⟨o, n⟩ := v
  have c0 := R.c0
  have lt := R.lt
  have C1 := Lib.hid (fun W [IsExt w W] => R.has W n)
  have C2 := Lib.hid (fun W [IsExt w W] => R.fmt W n)
  have C3 := Lib.hid (fun W [IsExt w W] => R.size W n)
  have E : Hid (S.hasF ⟨o, n⟩ i = (o && (S.has n && (!decide (S.fmt n = 3) && decide (i < S.size n))))) := Lib.hid rfl
  clear h R
  unfold val
  generalize S.has n = hh at *
  generalize S.fmt n = f at *
  generalize S.size n = s at *
  have hf3 : f = 3 ∨ (f == 3) = false := by by_cases hf : f = 3; exact .inl hf; exact .inr (beq_eq_false_iff_ne.2 hf)
  cases o
  · go_enter Tryz.func47, Tryz.ntmps47
    go_wp2_with fail
    refine wp_region_ext (by kernel_rfl) (by kernel_rfl) ?_
    repeat (go_big_quiet_step (fail))
    refine wpQuiet_nil ?_
    rintro W ⟨x, rfl⟩
    go_wp2
    go_ret
    exact ⟨ret_bool (by rw [E.out]; rfl), is_ext _ _⟩
  · cases hh
    · go_enter Tryz.func47, Tryz.ntmps47
      go_wp2_with fail
      refine wp_region_ext (by kernel_rfl) (by kernel_rfl) ?_
      repeat (go_big_quiet_step ((first | (go_at_call 181; exact calls_ext (C1.out _)))))
      refine wpQuiet_nil ?_
      rintro W ⟨x, rfl⟩
      go_wp2
      go_ret
      exact ⟨ret_bool (by rw [E.out]; rfl), is_ext _ _⟩
    · rcases hf3 with rfl | hf
      · go_enter Tryz.func47, Tryz.ntmps47
        go_wp2_with fail
        refine wp_region_ext (by kernel_rfl) (by kernel_rfl) ?_
        repeat (go_big_quiet_step ((first | (go_at_call 181; exact calls_ext (C1.out _)) | (go_at_call 180; exact calls_ext (C2.out _)))))
        refine wpQuiet_nil ?_
        rintro W ⟨x, rfl⟩
        go_wp2
        go_ret
        exact ⟨ret_bool (by rw [E.out]; simp), is_ext _ _⟩
      · have hf' := beq_eq_false_iff_ne.1 hf
        have hb : (f != 3) = true := by simpa using hf'
        go_enter Tryz.func47, Tryz.ntmps47
        go_wp2_with fail
        refine wp_region_ext (by kernel_rfl) (by kernel_rfl) ?_
        repeat (go_big_quiet_step ((first | (go_at_call 181; exact calls_ext (C1.out _)) | (go_at_call 180; exact calls_ext (C2.out _)) | (go_at_call 191; exact calls_ext (C3.out _)))))
        refine wpQuiet_nil ?_
        rintro W ⟨x, rfl⟩
        go_wp2
        go_ret
        exact ⟨ret_bool (by rw [E.out]; simp [hf']), is_ext _ _⟩
set_option maxRecDepth 100000 in
set_option maxHeartbeats 1000000 in
theorem misfirst (h : M w F m S) (n : Int) : Calls Tryz.prog 54 #[.pointer (some ⟨m, 0, none⟩), .int .i64 n] w fun e w' => e = .returned (.bool (decide (0 ≤ n ∧ n < 23))) ∧ Ext w w' := by
  obtain ⟨bt, R⟩ := h.rd
  have C0 := Lib.hid R.c0
  have LT := Lib.hid R.lt
  have CS := Lib.hid (fun W k => tspecial (w := W) k (.pointer (some ⟨bt, 0, none⟩)))
  clear h R
  go_enter Tryz.func54, Tryz.ntmps54
  go_wp2_with fail
  go_loopw [6] (fun kv wr => ∃ k : Nat, k ≤ 23 ∧ kv = .int .i64 k ∧ (∀ j : Nat, j < k → (j : Int) ≠ n) ∧ Ext w wr) (fun kv _ => 23 - (intOf kv).toNat)
  case atStart => exact ⟨0, by omega, rfl, fun j hj => absurd hj (by omega), Ext.refl _⟩
  case round =>
    obtain ⟨k, hk, rfl, hne, xk⟩ := hrel
    have c0 := (xk.below.cell (p := ⟨m, 0, none⟩) LT.out).trans C0.out
    have lt : m < wr.heap.size := Nat.lt_of_lt_of_le LT.out xk.below.size
    have HN := Lib.hid hne
    have XK := Lib.hid xk
    by_cases hlt : k < 23
    · have kI : (k : Int) < 23 := by omega
      clear hne xk
      by_cases e : (k : Int) = n
      · have en : decide (0 ≤ n ∧ n < 23) = true := decide_eq_true (by omega)
        have be : ((k : Int) == n) = true := beq_iff_eq.2 e
        go_wp2_with (go_at_call 192; refine (CS.out _ _).mono ?_; rintro e w' ⟨rfl, x'⟩)
        go_ret
        exact ⟨ret_bool en.symm, XK.out.trans x'⟩
      · have be : ((k : Int) == n) = false := beq_eq_false_iff_ne.2 e
        go_wp2_with (go_at_call 192; refine (CS.out _ _).mono ?_; rintro e w' ⟨rfl, x'⟩)
        go_roundw
        case rel => exact ⟨k + 1, by omega, by go_num, fun j hj => by
          by_cases hjk : j = k
          · subst hjk; exact e
          · exact HN.out j (by omega), XK.out.trans x'⟩
        case measure => simp [intOf]; omega
    · obtain rfl : k = 23 := by omega
      have en : decide (0 ≤ n ∧ n < 23) = false := decide_eq_false (fun c => by
        obtain ⟨q, rfl⟩ := Int.eq_ofNat_of_zero_le c.1
        exact hne q (by omega) rfl)
      clear hne xk
      go_wp2_with fail
      go_ret
      exact ⟨ret_bool en.symm, XK.out⟩
/-! ### which do -/
def doesB (op : Int) : Bool := decide (1 ≤ op ∧ op ≤ 10) || (decide (op = 13) || decide (18 ≤ op ∧ op ≤ 22))
set_option maxRecDepth 100000 in
set_option maxHeartbeats 1000000 in
theorem sdoes (w : World) (op : Int) (hop : op = 0 ∨ op = 1 ∨ op = 5 ∨ op = 6 ∨ op = 7 ∨ op = 11 ∨ op = 20 ∨ op = 22) : Calls Tryz.prog 52 #[.int .i64 op] w fun e w' => e = .returned (.bool (doesB op)) ∧ Ext w w' := by
  rcases hop with rfl | rfl | rfl | rfl | rfl | rfl | rfl | rfl
  all_goals
    go_enter Tryz.func52, Tryz.ntmps52
    go_wp2_with fail
    first
      | (go_ret; exact ⟨rfl, Ext.refl _⟩)
      | (refine wp_region_ext (by kernel_rfl) (by kernel_rfl) ?_
         repeat (go_big_quiet_step (fail))
         refine wpQuiet_nil ?_
         rintro W ⟨x, rfl⟩
         go_wp2
         go_ret
         exact ⟨rfl, is_ext _ _⟩)
set_option maxRecDepth 100000 in
theorem awake15 (w : World) : Calls Tryz.prog 25 #[] w fun e w' => e = .returned (.bool true) ∧ Ext w w' := by
  have C1 : Hid (∀ W, Calls Tryz.prog 52 #[.int .i64 1] W fun e w' => e = .returned (.bool true) ∧ Ext W w') := Lib.hid (fun W => sdoes W 1 (by omega))
  have C2 : Hid (∀ W, Calls Tryz.prog 52 #[.int .i64 22] W fun e w' => e = .returned (.bool true) ∧ Ext W w') := Lib.hid (fun W => sdoes W 22 (by omega))
  have C3 : Hid (∀ W, Calls Tryz.prog 52 #[.int .i64 11] W fun e w' => e = .returned (.bool false) ∧ Ext W w') := Lib.hid (fun W => sdoes W 11 (by omega))
  have C4 : Hid (∀ W, Calls Tryz.prog 52 #[.int .i64 0] W fun e w' => e = .returned (.bool false) ∧ Ext W w') := Lib.hid (fun W => sdoes W 0 (by omega))
  go_enter Tryz.func25, Tryz.ntmps25
  go_wp2_with fail
  refine (C1.out _).mono ?_
  rintro e w1 ⟨rfl, x1⟩
  go_wp2_with fail
  refine (C2.out _).mono ?_
  rintro e w2 ⟨rfl, x2⟩
  go_wp2_with fail
  refine (C3.out _).mono ?_
  rintro e w3 ⟨rfl, x3⟩
  go_wp2_with fail
  refine (C4.out _).mono ?_
  rintro e w4 ⟨rfl, x4⟩
  go_wp2_with fail
  go_ret
  exact ⟨rfl, ((x1.trans x2).trans x3).trans x4⟩
end
end Go.Proofs.YtnhijjcplnomgaaGreat.World
namespace Go.Proofs.YtnhijjcplnomgaaGreat.World
open Go.RowKit Go.Proofs.YtnhijjcplnomgaaGreat.Plain
set_option linter.unusedVariables false
attribute [local go_sem ↓] Go.wp_at_zero Go.wp_at_succ
namespace MS
/-- setfield: of the receiver's field a, by what lies on top -/
def sfOK (S : MS) (id a : Int) : Bool := (S.pop id).hasF (S.get id 4) a && (!decide (0 ≤ (S.get id 4).n ∧ (S.get id 4).n < 23) && (S.pop id).setOK (S.get id 4).n a (S.get id (6 + S.sp id - 1)))
def sf (S : MS) (id a : Int) : MS := if ((S.pop id).hasF (S.get id 4) a && !decide (0 ≤ (S.get id 4).n ∧ (S.get id 4).n < 23)) = true then (S.pop id).set (S.get id 4).n a (S.get id (6 + S.sp id - 1)) else S.pop id
end MS
/-- a scope whose gotos lead forward alone -/
theorem wp_scope_once {P : Program} {a : Act} {w : World} {Q : Exit → Act → World → Prop} {c rest : Code} (l : Nat) (hf : findLabel c l = some rest)
    (h : ∀ J : Act → World → Prop, (∀ a w, rest.wp P (Exit.noGoto Q) a w → J a w) → c.wp P (Exit.jump l J Q) a w) : (Code.scope c).wp P Q a w :=
  wp_scope_jumps l (fun a w => rest.wp P (Exit.noGoto Q) a w) (fun _ _ => 0) hf (h _ (fun _ _ h => h)) (fun a w h => wp_mono h (fun e a' w' h' => by
    cases e <;> first | exact h' | exact h'.elim))
section
variable {w w' w2 : World} {F F' F2 : Nat → Prop} {m : Nat} {S S' : MS} {X : MX}
set_option maxRecDepth 100000 in
set_option maxHeartbeats 2000000 in
/-- a number is pushed -/
theorem sdo9 (h : M w F m S) (hp : S.phase ≠ 1) {id : Int} (hf : S.isFrame id = true) (a b : Int) (ha : -1000 ≤ a ∧ a ≤ 1000) : Calls Tryz.prog 23 #[.pointer (some ⟨m, 0, none⟩), .int .i64 id, .agg #[.int .i64 9, .int .i64 a, .int .i64 b]] w fun e w' => e = .returned (.bool (S.pushOK id (num (a - 128)))) ∧ M w' F m (S.push id (num (a - 128))) ∧ Keep F w w' := by
  have C1 := Lib.hid (fun W [x : IsExt w W] => fis (h.ext x.out) id)
  have C2 := Lib.hid (fun W [x : IsExt w W] => mget (h.ext x.out) id 4)
  have C3 := Lib.hid (fun W [x : IsExt w W] => fpush (h.ext x.out) hp id (num (a - 128)))
  have HF := Lib.hid h.lt
  rw [hf] at C1
  obtain ⟨a1, a2⟩ := ha
  clear h hf hp
  unfold val num at *
  generalize S.push id ⟨false, a - 128⟩ = P at *
  generalize S.pushOK id ⟨false, a - 128⟩ = ok at *
  obtain ⟨mo, hmo⟩ : ∃ o, o = (S.get id 4).obj := ⟨_, rfl⟩
  obtain ⟨mn, hmn⟩ : ∃ o, o = (S.get id 4).n := ⟨_, rfl⟩
  rw [← hmo, ← hmn] at C2
  clear hmo hmn
  go_enter Tryz.func23, Tryz.ntmps23
  go_wp2_with fail
  go_step3
  go_wp2_with fail
  refine (C1.out _).mono ?_
  rintro e w1 ⟨rfl, x1⟩
  have B5 := ((Blk.new w 50 #[.int .i64 9, .int .i64 a, .int .i64 b]).alloc (.cells #[.bool false, .int .i64 0] 40)).ext x1
  replace B5 := B5
  have B7 := (Blk.at_ (w := w.alloc (.cells #[.int .i64 9, .int .i64 a, .int .i64 b] 50)) (g := w.heap.size + 1) 40 #[.bool false, .int .i64 0] (by simp)).ext x1
  have i1 : IsExt w w1 := ⟨(((Ext.refl w).alloc _).alloc _).trans x1⟩
  clear x1 C1
  go_wp2_with fail
  refine (C2.out _).mono ?_
  rintro e w2 ⟨rfl, x2⟩
  replace B5 := (B5.ext x2).alloc (.cells #[.bool mo, .int .i64 mn] 40)
  replace B7 := (B7.ext x2).alloc (.cells #[.bool mo, .int .i64 mn] 40)
  have i2 : IsExt w w2 := ⟨i1.out.trans x2⟩
  obtain ⟨p1, p2, p3⟩ := B5.rules
  obtain ⟨q1, q2, q3⟩ := B7.rules
  clear x2 C2 i1
  generalize hg5 : w.heap.size = g at *
  have hne : g ≠ g + 1 := by omega
  go_wp2_with fail
  refine calls_name (fun w3 hW => ?_)
  have i3 : IsExt w w3 := ⟨by rw [hW]; exact ((i2.out.alloc _).setNew (p := ⟨g + 1, 0, none⟩) (show w.heap.size ≤ g + 1 by omega) _).setNew (p := ⟨g + 1, 1, none⟩) (show w.heap.size ≤ g + 1 by omega) _⟩
  clear hW i2 p1 p2 p3 q1 q2 q3
  refine (C3.out w3).mono ?_
  rintro e w4 ⟨rfl, m4, k4⟩
  have R := Lib.hid (show M w4 F m P ∧ Keep F w w4 from ⟨m4, (Keep.of_ext i3.out F).trans k4⟩)
  clear m4 k4 C3 i3
  go_wp2_with fail
  rw [Exit.noGoto_ret]
  go_ret
  exact ⟨ret_bool (by simp), R.out⟩
set_option maxRecDepth 100000 in
set_option maxHeartbeats 2000000 in
/-- a field of the receiver is set -/
theorem sdo6 (h : M w F m S) (hp : S.phase ≠ 1) {id : Int} (hf : S.isFrame id = true) (hok : S.popOK id = true) (a b : Int) : Calls Tryz.prog 23 #[.pointer (some ⟨m, 0, none⟩), .int .i64 id, .agg #[.int .i64 6, .int .i64 a, .int .i64 b]] w fun e w' => e = .returned (.bool (S.sfOK id a)) ∧ M w' F m (S.sf id a) ∧ Keep F w w' := by
  have C1 := Lib.hid (fun W [x : IsExt w W] => fis (h.ext x.out) id)
  have C2 := Lib.hid (fun W [x : IsExt w W] => mget (h.ext x.out) id 4)
  have CD : Hid (∀ W, Calls Tryz.prog 52 #[.int .i64 6] W fun e w' => e = .returned (.bool true) ∧ Ext W w') := Lib.hid (fun W => sdoes W 6 (by omega))
  have C3 := Lib.hid (fun W [x : IsExt w W] => fpop (h.ext x.out) hp id hok)
  have HF := Lib.hid h.lt
  have hp1 : (S.pop id).phase ≠ 1 := by unfold MS.pop MS.pop1; rw [MS.set_phase, MS.set_phase]; exact hp
  rw [hf] at C1
  have EO : Hid (S.sfOK id a = ((S.pop id).hasF (S.get id 4) a && (!decide (0 ≤ (S.get id 4).n ∧ (S.get id 4).n < 23) && (S.pop id).setOK (S.get id 4).n a (S.get id (6 + S.sp id - 1))))) := Lib.hid rfl
  have ES : Hid (S.sf id a = if ((S.pop id).hasF (S.get id 4) a && !decide (0 ≤ (S.get id 4).n ∧ (S.get id 4).n < 23)) = true then (S.pop id).set (S.get id 4).n a (S.get id (6 + S.sp id - 1)) else S.pop id) := Lib.hid rfl
  clear h hf hp hok
  generalize S.sfOK id a = res at *
  generalize S.sf id a = RS at *
  generalize S.get id (6 + S.sp id - 1) = v at *
  generalize S.get id 4 = me at *
  generalize S.pop id = P at *
  obtain ⟨vo, vn⟩ := v
  obtain ⟨mo, mn⟩ := me
  unfold val at *
  go_enter Tryz.func23, Tryz.ntmps23
  go_wp2_with fail
  refine wp_scope_once 0 rfl (fun J hJ => ?_)
  go_wp2_with fail
  refine (C1.out _).mono ?_
  rintro e w1 ⟨rfl, x1⟩
  have B5 := ((Blk.new w 50 #[.int .i64 6, .int .i64 a, .int .i64 b]).alloc (.cells #[.bool false, .int .i64 0] 40)).ext x1
  have B7 := (Blk.at_ (w := w.alloc (.cells #[.int .i64 6, .int .i64 a, .int .i64 b] 50)) (g := w.heap.size + 1) 40 #[.bool false, .int .i64 0] (by simp)).ext x1
  have i1 : IsExt w w1 := ⟨(((Ext.refl w).alloc _).alloc _).trans x1⟩
  clear x1 C1
  go_wp2_with fail
  refine (C2.out _).mono ?_
  rintro e w2 ⟨rfl, x2⟩
  have l7 := (B7.ext x2).lt
  replace B5 := (B5.ext x2).alloc (.cells #[.bool mo, .int .i64 mn] 40)
  replace B7 := (B7.ext x2).alloc (.cells #[.bool mo, .int .i64 mn] 40)
  have B9 := Blk.new w2 40 #[.bool mo, .int .i64 mn]
  have i2 : IsExt w w2 := ⟨i1.out.trans x2⟩
  have l2 := i2.out.below.size
  obtain ⟨p1, p2, p3⟩ := B5.rules
  clear x2 C2 i1
  generalize hg5 : w.heap.size = g at *
  go_wp2_with fail
  refine wp_goto ?_
  refine ⟨rfl, hJ _ _ ?_⟩
  refine wp_name (fun w3 hW => ?_)
  have i3 : IsExt w w3 := ⟨by rw [hW]; exact i2.out.alloc _⟩
  rw [← hW] at B5 B7
  replace B9 : Blk w3 w2.heap.size 40 #[.bool mo, .int .i64 mn] := by rw [hW]; exact B9
  obtain ⟨p1, p2, p3⟩ := B5.rules
  clear hW i2 hJ
  go_wp2_with fail
  refine (CD.out w3).mono ?_
  rintro e w4 ⟨rfl, x4⟩
  replace B5 := B5.ext x4
  replace B7 := B7.ext x4
  replace B9 := B9.ext x4
  have i4 : IsExt w w4 := ⟨i3.out.trans x4⟩
  clear x4 CD i3 p1 p2 p3
  go_wp2_with fail
  refine (C3.out w4).mono ?_
  rintro e w5 ⟨rfl, m5, k5⟩
  have nF : ∀ k, g ≤ k → ¬ F k := fun k hk hf => by have := HF.out _ hf; omega
  replace B5 := B5.keep k5 (nF g (Nat.le_refl _))
  replace B7 := B7.keep k5 (nF (g + 1) (by omega))
  replace B9 := B9.keep k5 (nF _ l2)
  have K5 := (Keep.of_ext i4.out F).trans k5
  have l9 := i4.out.below.size
  have hne : g ≠ g + 1 := by omega
  have hne' : g + 1 ≠ g := by omega
  have hne9 : w2.heap.size ≠ g + 1 := by omega
  have hne9' : g + 1 ≠ w2.heap.size := by omega
  obtain ⟨q1, q2, q3⟩ := B7.rules
  clear k5 C3 i4
  go_upto_region 36 with (fail)
  refine wp_name (fun w6 hW => ?_)
  have B5' : Blk w6 g 50 #[.int .i64 6, .int .i64 a, .int .i64 b] := by rw [hW]; exact (B5.far hne _).far hne _
  have B7' : Blk w6 (g + 1) 40 #[.bool vo, .int .i64 vn] := by rw [hW]; exact (B7.set 0 _).set 1 _
  have B9' : Blk w6 w2.heap.size 40 #[.bool mo, .int .i64 mn] := by rw [hW]; exact (B9.far hne9 _).far hne9 _
  have M6 : M w6 F m P := by rw [hW]; exact m5.far (((Keep.refl (· = g + 1) w5).setCell (p := ⟨g + 1, 0, none⟩) rfl _).setCell (p := ⟨g + 1, 1, none⟩) rfl _) (fun j e hf => nF (g + 1) (by omega) (e ▸ hf))
  have K6 : Keep F w w6 := by rw [hW]; exact (K5.setNew (p := ⟨g + 1, 0, none⟩) (show w.heap.size ≤ g + 1 by omega) _).setNew (p := ⟨g + 1, 1, none⟩) (show w.heap.size ≤ g + 1 by omega) _
  clear hW B5 B7 B9 m5 K5 q1 q2 q3
  have CH := Lib.hid (fun W [x : IsExt w6 W] => shas (M6.ext x.out) ⟨mo, mn⟩ a)
  have CI := Lib.hid (fun W [x : IsExt w6 W] => misfirst (M6.ext x.out) mn)
  have CW := Lib.hid (fun W [x : IsExt w6 W] => mset (M6.ext x.out) hp1 mn a ⟨vo, vn⟩)
  have E5 := Lib.hid B5'
  have E7 := Lib.hid B7'
  have E9 := Lib.hid B9'
  have MH := Lib.hid M6
  have KH := Lib.hid K6
  obtain ⟨p1, p2, p3⟩ := E5.out.rules
  obtain ⟨q1, q2, q3⟩ := E7.out.rules
  obtain ⟨r1, r2, r3⟩ := E9.out.rules
  have i6 : IsExt w6 w6 := ⟨Ext.refl _⟩
  unfold val at CH CW
  clear B5' B7' B9' M6 K6 hne hne' hne9 hne9' l2 l7 l9 hp1 nF
  generalize w2.heap.size = g9 at *
  generalize P.setOK mn a ⟨vo, vn⟩ = so at *
  generalize P.set mn a ⟨vo, vn⟩ = P2 at *
  cases hh : P.hasF ⟨mo, mn⟩ a with
  | false =>
    rw [hh] at EO ES CH
    have er : res = false := EO.out
    have es : RS = P := ES.out
    subst er es
    clear EO ES CI CW hh
    go_wp2_with fail
    refine (CH.out _).mono ?_
    rintro e w7 ⟨rfl, x7⟩
    have R := Lib.hid (show M w7 F m RS ∧ Keep F w w7 from ⟨MH.out.ext x7, KH.out.trans (Keep.of_ext x7 F)⟩)
    clear x7 CH
    go_wp2_with fail
    rw [Exit.noGoto_ret]
    go_ret
    exact ⟨rfl, R.out⟩
  | true =>
    rw [hh] at EO ES CH
    cases hi : decide (0 ≤ mn ∧ mn < 23) with
    | true =>
      rw [hi] at EO ES CI
      have er : res = false := EO.out
      have es : RS = P := ES.out
      subst er es
      clear EO ES CW hh hi
      go_wp2_with fail
      refine (CH.out _).mono ?_
      rintro e w7 ⟨rfl, x7⟩
      have i7 : IsExt w6 w7 := ⟨x7⟩
      obtain ⟨p1, p2, p3⟩ := (E5.out.ext x7).rules
      obtain ⟨r1, r2, r3⟩ := (E9.out.ext x7).rules
      clear x7 CH i6
      go_wp2_with fail
      refine (CI.out _).mono ?_
      rintro e w8 ⟨rfl, x8⟩
      have R := Lib.hid (show M w8 F m RS ∧ Keep F w w8 from ⟨(MH.out.ext i7.out).ext x8, (KH.out.trans (Keep.of_ext i7.out F)).trans (Keep.of_ext x8 F)⟩)
      clear x8 CI
      go_wp2_with fail
      rw [Exit.noGoto_ret]
      go_ret
      exact ⟨rfl, R.out⟩
    | false =>
      rw [hi] at EO ES CI
      have er : res = so := EO.out
      have es : RS = P2 := ES.out
      subst er es
      clear EO ES hh hi
      go_wp2_with fail
      refine (CH.out _).mono ?_
      rintro e w7 ⟨rfl, x7⟩
      have i7 : IsExt w6 w7 := ⟨x7⟩
      obtain ⟨p1, p2, p3⟩ := (E5.out.ext x7).rules
      obtain ⟨q1, q2, q3⟩ := (E7.out.ext x7).rules
      obtain ⟨r1, r2, r3⟩ := (E9.out.ext x7).rules
      clear x7 CH i6
      go_wp2_with fail
      refine (CI.out _).mono ?_
      rintro e w8 ⟨rfl, x8⟩
      have i8 : IsExt w6 w8 := ⟨i7.out.trans x8⟩
      obtain ⟨p1, p2, p3⟩ := (E5.out.ext i8.out).rules
      obtain ⟨q1, q2, q3⟩ := (E7.out.ext i8.out).rules
      obtain ⟨r1, r2, r3⟩ := (E9.out.ext i8.out).rules
      clear x8 CI i7
      go_wp2_with fail
      refine (CW.out _).mono ?_
      rintro e w9 ⟨rfl, m9, k9⟩
      have R := Lib.hid (show M w9 F m RS ∧ Keep F w w9 from ⟨m9, (KH.out.trans (Keep.of_ext i8.out F)).trans k9⟩)
      clear m9 k9 CW
      go_wp2_with fail
      rw [Exit.noGoto_ret]
      go_ret
      exact ⟨ret_bool (by simp), R.out⟩
end
end Go.Proofs.YtnhijjcplnomgaaGreat.World
namespace Go.Proofs.YtnhijjcplnomgaaGreat.World
open Go.RowKit Go.Proofs.YtnhijjcplnomgaaGreat.Plain
set_option linter.unusedVariables false
attribute [local go_sem ↓] Go.wp_at_zero Go.wp_at_succ
namespace MS
/-- field: the receiver's field a is pushed, if there is one -/
def pfOK (S : MS) (id a : Int) : Bool := S.hasF (S.get id 4) a && S.pushOK id (S.get (S.get id 4).n a)
def pf (S : MS) (id a : Int) : MS := if S.hasF (S.get id 4) a = true then S.push id (S.get (S.get id 4).n a) else S
end MS
/-! ### a field of the receiver: a region whose calls come in any order -/
structure DI (w : World) (m g g9 : Nat) (id op a b : Int) (mo : Bool) (mn : Int) (vo : Bool) (vn : Int) (ok : Bool) (L : Nat → Bool) (s : Nat → Value) (W : World) : Prop where
  v0 : L 0 = true → s 53 = .pointer (some ⟨m, 0, none⟩)
  v1 : L 1 = true → s 54 = .pointer (some ⟨g9, 1, none⟩)
  v2 : L 2 = true → s 55 = .int .i64 mn
  v3 : L 3 = true → s 56 = .pointer (some ⟨g, 1, none⟩)
  v4 : L 4 = true → s 57 = .int .i64 a
  v5 : L 5 = true → s 58 = .agg #[.bool vo, .int .i64 vn]
  v6 : L 6 = true → s 59 = .pointer (some ⟨m, 0, none⟩)
  v7 : L 7 = true → s 60 = .agg #[.bool mo, .int .i64 mn]
  v8 : L 8 = true → s 61 = .pointer (some ⟨g, 1, none⟩)
  v9 : L 9 = true → s 62 = .int .i64 a
  v10 : L 10 = true → s 63 = .bool ok
  v12 : L 12 = true → s 8 = .bool ok
  x : Ext w W
  bi : Blk W g 50 #[.int .i64 op, .int .i64 a, .int .i64 b]
  bm : Blk W g9 40 #[.bool mo, .int .i64 mn]
  va : L 11 = false → Blk W (g + 1) 40 #[.bool false, .int .i64 0]
  vb : L 11 = true → Blk W (g + 1) 40 #[.bool vo, .int .i64 vn]
def frD (m g g9 : Nat) (id : Int) (u s : Nat → Value) : Act := { tmps := #[.pointer (some ⟨m, 0, none⟩), .int .i64 id, u 2, u 3, u 4, .pointer (some ⟨g, 0, none⟩), u 6, .pointer (some ⟨g + 1, 0, none⟩), s 8, .pointer (some ⟨g9, 0, none⟩), u 10, u 11, u 12, u 13, u 14, u 15, u 16, u 17, u 18, u 19, u 20, u 21, u 22, u 23, u 24, u 25, u 26, u 27, u 28, u 29, u 30, u 31, u 32, u 33, u 34, u 35, u 36, u 37, u 38, u 39, u 40, u 41, u 42, u 43, u 44, u 45, u 46, u 47, u 48, u 49, u 50, u 51, u 52, s 53, s 54, s 55, s 56, s 57, s 58, s 59, s 60, s 61, s 62, s 63, u 64, u 65, u 66, u 67, u 68, u 69, u 70, u 71, u 72, u 73, u 74, u 75, u 76, u 77, u 78, u 79, u 80, u 81, u 82, u 83, u 84, u 85, u 86, u 87, u 88, u 89, u 90, u 91, u 92, u 93, u 94, u 95, u 96, u 97, u 98, u 99, u 100, u 101, u 102, u 103, u 104, u 105, u 106, u 107, u 108, u 109, u 110, u 111, u 112, u 113, u 114, u 115, u 116, u 117, u 118, u 119, u 120, u 121, u 122, u 123, u 124, u 125, u 126, u 127, u 128, u 129, u 130, u 131, u 132, u 133, u 134, u 135, u 136, u 137, u 138, u 139, u 140, u 141, u 142, u 143, u 144, u 145, u 146, u 147, u 148, u 149, u 150, u 151, u 152, u 153, u 154, u 155, u 156, u 157, u 158, u 159, u 160, u 161, u 162, u 163, u 164, u 165, u 166, u 167, u 168, u 169, u 170, u 171, u 172, u 173, u 174, u 175, u 176, u 177, u 178, u 179, u 180, u 181, u 182, u 183, u 184, u 185, u 186, u 187, u 188, u 189, u 190, u 191, u 192, u 193, u 194, u 195, u 196, u 197, u 198, u 199, u 200, u 201, u 202, u 203, u 204, u 205, u 206], defers := [] }
def DInv (w : World) (m g g9 : Nat) (id op a b : Int) (mo : Bool) (mn : Int) (vo : Bool) (vn : Int) (ok : Bool) (u : Nat → Value) (listed : Array Bool) (act : Act) (W : World) : Prop :=
  ∃ L : Nat → Bool, (∀ k, listed.getD k false = L k) ∧ ∃ s : Nat → Value, act = frD m g g9 id u s ∧ listed.size = 13 ∧ DI w m g g9 id op a b mo mn vo vn ok L s W
section
variable {w w' w2 : World} {F F' F2 : Nat → Prop} {m : Nat} {S S' : MS} {X : MX}
set_option maxRecDepth 100000 in
set_option maxHeartbeats 4000000 in
theorem sdo4 (h : M w F m S) (hp : S.phase ≠ 1) {id : Int} (hf : S.isFrame id = true) (a b : Int) : Calls Tryz.prog 23 #[.pointer (some ⟨m, 0, none⟩), .int .i64 id, .agg #[.int .i64 4, .int .i64 a, .int .i64 b]] w fun e w' => e = .returned (.bool (S.pfOK id a)) ∧ M w' F m (S.pf id a) ∧ Keep F w w' := by
  have C1 := Lib.hid (fun W [x : IsExt w W] => fis (h.ext x.out) id)
  have C2 := Lib.hid (fun W [x : IsExt w W] => mget (h.ext x.out) id 4)
  have CG := Lib.hid (fun W [x : IsExt w W] => mget (h.ext x.out) (S.get id 4).n a)
  have CH := Lib.hid (fun W [x : IsExt w W] => shas (h.ext x.out) (S.get id 4) a)
  have C3 := Lib.hid (fun W [x : IsExt w W] => fpush (h.ext x.out) hp id (S.get (S.get id 4).n a))
  have HM := Lib.hid h
  rw [hf] at C1
  have EO : Hid (S.pfOK id a = (S.hasF (S.get id 4) a && S.pushOK id (S.get (S.get id 4).n a))) := Lib.hid rfl
  have ES : Hid (S.pf id a = if S.hasF (S.get id 4) a = true then S.push id (S.get (S.get id 4).n a) else S) := Lib.hid rfl
  clear h hf hp
  generalize S.pfOK id a = res at *
  generalize S.pf id a = RS at *
  generalize S.hasF (S.get id 4) a = ok at *
  generalize S.get (S.get id 4).n a = v at *
  generalize S.pushOK id v = po at *
  generalize S.push id v = P at *
  generalize S.get id 4 = me at *
  obtain ⟨vo, vn⟩ := v
  obtain ⟨mo, mn⟩ := me
  unfold val at *
  go_enter Tryz.func23, Tryz.ntmps23
  go_wp2_with fail
  go_step3
  go_wp2_with fail
  refine (C1.out _).mono ?_
  rintro e w1 ⟨rfl, x1⟩
  have B5 := ((Blk.new w 50 #[.int .i64 4, .int .i64 a, .int .i64 b]).alloc (.cells #[.bool false, .int .i64 0] 40)).ext x1
  have B7 := (Blk.at_ (w := w.alloc (.cells #[.int .i64 4, .int .i64 a, .int .i64 b] 50)) (g := w.heap.size + 1) 40 #[.bool false, .int .i64 0] (by simp)).ext x1
  have i1 : IsExt w w1 := ⟨(((Ext.refl w).alloc _).alloc _).trans x1⟩
  clear x1 C1
  go_wp2_with fail
  refine (C2.out _).mono ?_
  rintro e w2 ⟨rfl, x2⟩
  have l7 := (B7.ext x2).lt
  replace B5 := (B5.ext x2).alloc (.cells #[.bool mo, .int .i64 mn] 40)
  replace B7 := (B7.ext x2).alloc (.cells #[.bool mo, .int .i64 mn] 40)
  have B9 := Blk.new w2 40 #[.bool mo, .int .i64 mn]
  have i2 : IsExt w w2 := ⟨i1.out.trans x2⟩
  obtain ⟨p1, p2, p3⟩ := B5.rules
  clear x2 C2 i1
  generalize hg5 : w.heap.size = g at *
  go_upto_region 15 with (fail)
  refine wp_name (fun w6 hW => ?_)
  rw [← hW] at B5 B7 B9
  have X6 : Hid (Ext w w6) := Lib.hid (by rw [hW]; exact i2.out.alloc _)
  have E5 := Lib.hid B5
  have E7 := Lib.hid B7
  have E9 := Lib.hid B9
  have hne : g ≠ g + 1 := by omega
  have hne9 : w2.heap.size ≠ g + 1 := by omega
  have hg1 : w.heap.size ≤ g + 1 := by omega
  clear hW i2 p1 p2 p3 B5 B7 B9
  generalize w2.heap.size = g9 at *
  refine wp_any_act (fun A hA => ?_)
  have eA : A = frD m g g9 id (fun q => A.tmps.getD q undef) (fun q => A.tmps.getD q undef) := by rw [hA]; rfl
  clear hA
  generalize (fun q => A.tmps.getD q undef) = u at eA
  subst eA
  refine wp_region_inv (Inv := DInv w m g g9 id 4 a b mo mn vo vn ok u) (by kernel_rfl) ?_ ?_ ?_
  · refine ⟨fun _ => false, fun k => ?_, u, rfl, by simp, ⟨?_, ?_, ?_, ?_, ?_, ?_, ?_, ?_, ?_, ?_, ?_, ?_, ?_, ?_, ?_, ?_, ?_⟩⟩
    · rw [Array.getD_eq_getD_getElem?, Array.getElem?_replicate]; split <;> rfl
    · intro h; exact absurd h (by decide)
    · intro h; exact absurd h (by decide)
    · intro h; exact absurd h (by decide)
    · intro h; exact absurd h (by decide)
    · intro h; exact absurd h (by decide)
    · intro h; exact absurd h (by decide)
    · intro h; exact absurd h (by decide)
    · intro h; exact absurd h (by decide)
    · intro h; exact absurd h (by decide)
    · intro h; exact absurd h (by decide)
    · intro h; exact absurd h (by decide)
    · intro h; exact absurd h (by decide)
    · exact X6.out.drew
    · exact E5.out.drew
    · exact E9.out.drew
    · exact fun _ => E7.out.drew
    · intro h; exact absurd h (by decide)
  · rintro listed act W ii ⟨L, hL, s, rfl, hsz, I⟩ hi
    obtain ⟨hlt, hnot, hdep⟩ := (ready_iff _ _).1 hi
    have hiN : ii < 13 := hlt
    have casesN : ii = 0 ∨ ii = 1 ∨ ii = 2 ∨ ii = 3 ∨ ii = 4 ∨ ii = 5 ∨ ii = 6 ∨ ii = 7 ∨ ii = 8 ∨ ii = 9 ∨ ii = 10 ∨ ii = 11 ∨ ii = 12 := by omega
    have hn0 : L ii = false := by rw [← hL ii]; exact not_bit hnot
    clear hi hlt hiN hnot
    have iW : IsExt w W := ⟨I.x⟩
    obtain ⟨p1, p2, p3⟩ := I.bi.rules
    obtain ⟨r1, r2, r3⟩ := I.bm.rules
    unfold frD
    rcases casesN with rfl | rfl | rfl | rfl | rfl | rfl | rfl | rfl | rfl | rfl | rfl | rfl | rfl
    · -- operation 0
      simp only [Region.binds, listed_bit hL] at hdep
      refine wpOp_step rfl (fun K' hK => ?_)
      go_simp
      exact hK _ _ ⟨_, bit_set hL hsz 0 (by omega), fun j => if j = 53 then .pointer (some ⟨m, 0, none⟩) else s j, by first | (simp [frD]; done) | (simp [frD]; rfl), by simpa using hsz, ⟨fun _ => rfl, I.v1, I.v2, I.v3, I.v4, I.v5, I.v6, I.v7, I.v8, I.v9, I.v10, I.v12, I.x, I.bi, I.bm, I.va, I.vb⟩⟩
    · -- operation 1
      simp only [Region.binds, listed_bit hL] at hdep
      refine wpOp_step rfl (fun K' hK => ?_)
      go_simp
      exact hK _ _ ⟨_, bit_set hL hsz 1 (by omega), fun j => if j = 54 then .pointer (some ⟨g9, 1, none⟩) else s j, by first | (simp [frD]; done) | (simp [frD]; rfl), by simpa using hsz, ⟨I.v0, fun _ => rfl, I.v2, I.v3, I.v4, I.v5, I.v6, I.v7, I.v8, I.v9, I.v10, I.v12, I.x, I.bi, I.bm, I.va, I.vb⟩⟩
    · -- operation 2
      simp only [Region.binds, listed_bit hL] at hdep
      have d1 : L 1 = true := by first | simpa [hL] using hdep | (simp [hL, Region.binds] at hdep; simp [hdep])
      have e1 := I.v1 d1
      refine wpOp_step rfl (fun K' hK => ?_)
      rw [e1]
      go_simp
      exact hK _ _ ⟨_, bit_set hL hsz 2 (by omega), fun j => if j = 55 then .int .i64 mn else s j, by first | (simp [frD, e1]; done) | (simp [frD, e1]; rfl), by simpa using hsz, ⟨I.v0, I.v1, fun _ => rfl, I.v3, I.v4, I.v5, I.v6, I.v7, I.v8, I.v9, I.v10, I.v12, I.x, I.bi, I.bm, I.va, I.vb⟩⟩
    · -- operation 3
      simp only [Region.binds, listed_bit hL] at hdep
      refine wpOp_step rfl (fun K' hK => ?_)
      go_simp
      exact hK _ _ ⟨_, bit_set hL hsz 3 (by omega), fun j => if j = 56 then .pointer (some ⟨g, 1, none⟩) else s j, by first | (simp [frD]; done) | (simp [frD]; rfl), by simpa using hsz, ⟨I.v0, I.v1, I.v2, fun _ => rfl, I.v4, I.v5, I.v6, I.v7, I.v8, I.v9, I.v10, I.v12, I.x, I.bi, I.bm, I.va, I.vb⟩⟩
    · -- operation 4
      simp only [Region.binds, listed_bit hL] at hdep
      have d3 : L 3 = true := by first | simpa [hL] using hdep | (simp [hL, Region.binds] at hdep; simp [hdep])
      have e3 := I.v3 d3
      refine wpOp_step rfl (fun K' hK => ?_)
      rw [e3]
      go_simp
      exact hK _ _ ⟨_, bit_set hL hsz 4 (by omega), fun j => if j = 57 then .int .i64 a else s j, by first | (simp [frD, e3]; done) | (simp [frD, e3]; rfl), by simpa using hsz, ⟨I.v0, I.v1, I.v2, I.v3, fun _ => rfl, I.v5, I.v6, I.v7, I.v8, I.v9, I.v10, I.v12, I.x, I.bi, I.bm, I.va, I.vb⟩⟩
    · -- operation 5
      simp only [Region.binds, listed_bit hL] at hdep
      have d0 : L 0 = true := by first | simpa [hL] using hdep | (simp [hL, Region.binds] at hdep; simp [hdep])
      have e0 := I.v0 d0
      have d2 : L 2 = true := by first | simpa [hL] using hdep | (simp [hL, Region.binds] at hdep; simp [hdep])
      have e2 := I.v2 d2
      have d4 : L 4 = true := by first | simpa [hL] using hdep | (simp [hL, Region.binds] at hdep; simp [hdep])
      have e4 := I.v4 d4
      refine wpOp_step rfl (fun K' hK => ?_)
      rw [e0, e2, e4]
      go_simp
      refine (CG.out _).mono ?_
      rintro e w3 ⟨rfl, x3⟩
      exact hK _ _ ⟨_, bit_set hL hsz 5 (by omega), fun j => if j = 58 then .agg #[.bool vo, .int .i64 vn] else s j, by first | (simp [frD, e0, e2, e4]; done) | (simp [frD, e0, e2, e4]; rfl), by simpa using hsz, ⟨I.v0, I.v1, I.v2, I.v3, I.v4, fun _ => rfl, I.v6, I.v7, I.v8, I.v9, I.v10, I.v12, I.x.trans x3, I.bi.ext x3, I.bm.ext x3, fun h => (I.va h).ext x3, fun h => (I.vb h).ext x3⟩⟩
    · -- operation 6
      simp only [Region.binds, listed_bit hL] at hdep
      refine wpOp_step rfl (fun K' hK => ?_)
      go_simp
      exact hK _ _ ⟨_, bit_set hL hsz 6 (by omega), fun j => if j = 59 then .pointer (some ⟨m, 0, none⟩) else s j, by first | (simp [frD]; done) | (simp [frD]; rfl), by simpa using hsz, ⟨I.v0, I.v1, I.v2, I.v3, I.v4, I.v5, fun _ => rfl, I.v7, I.v8, I.v9, I.v10, I.v12, I.x, I.bi, I.bm, I.va, I.vb⟩⟩
    · -- operation 7
      simp only [Region.binds, listed_bit hL] at hdep
      refine wpOp_step rfl (fun K' hK => ?_)
      go_simp
      exact hK _ _ ⟨_, bit_set hL hsz 7 (by omega), fun j => if j = 60 then .agg #[.bool mo, .int .i64 mn] else s j, by first | (simp [frD]; done) | (simp [frD]; rfl), by simpa using hsz, ⟨I.v0, I.v1, I.v2, I.v3, I.v4, I.v5, I.v6, fun _ => rfl, I.v8, I.v9, I.v10, I.v12, I.x, I.bi, I.bm, I.va, I.vb⟩⟩
    · -- operation 8
      simp only [Region.binds, listed_bit hL] at hdep
      refine wpOp_step rfl (fun K' hK => ?_)
      go_simp
      exact hK _ _ ⟨_, bit_set hL hsz 8 (by omega), fun j => if j = 61 then .pointer (some ⟨g, 1, none⟩) else s j, by first | (simp [frD]; done) | (simp [frD]; rfl), by simpa using hsz, ⟨I.v0, I.v1, I.v2, I.v3, I.v4, I.v5, I.v6, I.v7, fun _ => rfl, I.v9, I.v10, I.v12, I.x, I.bi, I.bm, I.va, I.vb⟩⟩
    · -- operation 9
      simp only [Region.binds, listed_bit hL] at hdep
      have d8 : L 8 = true := by first | simpa [hL] using hdep | (simp [hL, Region.binds] at hdep; simp [hdep])
      have e8 := I.v8 d8
      refine wpOp_step rfl (fun K' hK => ?_)
      rw [e8]
      go_simp
      exact hK _ _ ⟨_, bit_set hL hsz 9 (by omega), fun j => if j = 62 then .int .i64 a else s j, by first | (simp [frD, e8]; done) | (simp [frD, e8]; rfl), by simpa using hsz, ⟨I.v0, I.v1, I.v2, I.v3, I.v4, I.v5, I.v6, I.v7, I.v8, fun _ => rfl, I.v10, I.v12, I.x, I.bi, I.bm, I.va, I.vb⟩⟩
    · -- operation 10
      simp only [Region.binds, listed_bit hL] at hdep
      have d6 : L 6 = true := by first | simpa [hL] using hdep | (simp [hL, Region.binds] at hdep; simp [hdep])
      have e6 := I.v6 d6
      have d7 : L 7 = true := by first | simpa [hL] using hdep | (simp [hL, Region.binds] at hdep; simp [hdep])
      have e7 := I.v7 d7
      have d9 : L 9 = true := by first | simpa [hL] using hdep | (simp [hL, Region.binds] at hdep; simp [hdep])
      have e9 := I.v9 d9
      refine wpOp_step rfl (fun K' hK => ?_)
      rw [e6, e7, e9]
      go_simp
      refine (CH.out _).mono ?_
      rintro e w3 ⟨rfl, x3⟩
      exact hK _ _ ⟨_, bit_set hL hsz 10 (by omega), fun j => if j = 63 then .bool ok else s j, by first | (simp [frD, e6, e7, e9]; done) | (simp [frD, e6, e7, e9]; rfl), by simpa using hsz, ⟨I.v0, I.v1, I.v2, I.v3, I.v4, I.v5, I.v6, I.v7, I.v8, I.v9, fun _ => rfl, I.v12, I.x.trans x3, I.bi.ext x3, I.bm.ext x3, fun h => (I.va h).ext x3, fun h => (I.vb h).ext x3⟩⟩
    · -- operation 11
      simp only [Region.binds, listed_bit hL] at hdep
      have d5 : L 5 = true := by first | simpa [hL] using hdep | (simp [hL, Region.binds] at hdep; simp [hdep])
      have e5 := I.v5 d5
      have hV := I.va hn0
      obtain ⟨q1, q2, q3⟩ := hV.rules
      refine wpOp_step rfl (fun K' hK => ?_)
      rw [e5]
      have IX := Lib.hid I
      have HV := Lib.hid hV
      clear I hV
      go_simp
      exact hK _ _ ⟨_, bit_set hL hsz 11 (by omega), s, by first | (simp [frD, e5]; done) | (simp [frD, e5]; rfl), by simpa using hsz, ⟨IX.out.v0, IX.out.v1, IX.out.v2, IX.out.v3, IX.out.v4, IX.out.v5, IX.out.v6, IX.out.v7, IX.out.v8, IX.out.v9, IX.out.v10, IX.out.v12, (IX.out.x.setNew (p := ⟨g + 1, 0, none⟩) hg1 _).setNew (p := ⟨g + 1, 1, none⟩) hg1 _, (IX.out.bi.far hne _).far hne _, (IX.out.bm.far hne9 _).far hne9 _, fun h => absurd h (by simp), fun _ => (HV.out.set 0 _).set 1 _⟩⟩
    · -- operation 12
      simp only [Region.binds, listed_bit hL] at hdep
      have d10 : L 10 = true := by first | simpa [hL] using hdep | (simp [hL, Region.binds] at hdep; simp [hdep])
      have e10 := I.v10 d10
      refine wpOp_step rfl (fun K' hK => ?_)
      rw [e10]
      go_simp
      exact hK _ _ ⟨_, bit_set hL hsz 12 (by omega), fun j => if j = 8 then .bool ok else s j, by first | (simp [frD, e10]; done) | (simp [frD, e10]; rfl), by simpa using hsz, ⟨I.v0, I.v1, I.v2, I.v3, I.v4, I.v5, I.v6, I.v7, I.v8, I.v9, I.v10, fun _ => rfl, I.x, I.bi, I.bm, I.va, I.vb⟩⟩
  · rintro listed act W ⟨L, hL, s, rfl, hsz, I⟩ hr
    have ALL : ∀ i, i < 13 → L i = true := fun i hi => by rw [← hL i]; exact all_listed_m (by kernel_rfl) hsz hr i hi
    have b7 := I.vb (ALL 11 (by omega))
    have e8 := I.v12 (ALL 12 (by omega))
    have hx := I.x
    clear I hL ALL hr hsz
    unfold frD
    dsimp only
    rw [e8]
    have X7 := Lib.hid hx
    have i7 : IsExt w W := ⟨hx⟩
    obtain ⟨q1, q2, q3⟩ := b7.rules
    clear hx CG CH
    cases ok with
    | false =>
      have er : res = false := EO.out
      have es : RS = S := ES.out
      subst er es
      clear EO ES C3 b7
      go_wp2_with fail
      rw [Exit.noGoto_ret]
      go_ret
      exact ⟨rfl, HM.out.ext X7.out, Keep.of_ext X7.out F⟩
    | true =>
      have er : res = po := EO.out
      have es : RS = P := ES.out
      subst er es
      clear EO ES b7
      go_wp2_with fail
      refine (C3.out _).mono ?_
      rintro e w8 ⟨rfl, m8, k8⟩
      have R := Lib.hid (show M w8 F m RS ∧ Keep F w w8 from ⟨m8, (Keep.of_ext X7.out F).trans k8⟩)
      clear m8 k8 C3
      go_wp2_with fail
      rw [Exit.noGoto_ret]
      go_ret
      exact ⟨ret_bool (by simp), R.out⟩
end
end Go.Proofs.YtnhijjcplnomgaaGreat.World
namespace Go.Proofs.YtnhijjcplnomgaaGreat.World
open Go.RowKit Go.Proofs.YtnhijjcplnomgaaGreat.Plain
set_option linter.unusedVariables false
attribute [local go_sem ↓] Go.wp_at_zero Go.wp_at_succ
section
variable {w w' w2 : World} {F F' F2 : Nat → Prop} {m : Nat} {S S' : MS} {X : MX}
set_option maxRecDepth 100000 in
set_option maxHeartbeats 2000000 in
/-- the frame itself is pushed -/
theorem sdo22 (h : M w F m S) (hp : S.phase ≠ 1) {id : Int} (hf : S.isFrame id = true) (a b : Int) : Calls Tryz.prog 23 #[.pointer (some ⟨m, 0, none⟩), .int .i64 id, .agg #[.int .i64 22, .int .i64 a, .int .i64 b]] w fun e w' => e = .returned (.bool (S.pushOK id (objV id))) ∧ M w' F m (S.push id (objV id)) ∧ Keep F w w' := by
  have C1 := Lib.hid (fun W [x : IsExt w W] => fis (h.ext x.out) id)
  have C2 := Lib.hid (fun W [x : IsExt w W] => mget (h.ext x.out) id 4)
  have C3 := Lib.hid (fun W [x : IsExt w W] => fpush (h.ext x.out) hp id (objV id))
  have HF := Lib.hid h.lt
  rw [hf] at C1
  clear h hf hp
  unfold val objV at *
  generalize S.push id ⟨true, id⟩ = P at *
  generalize S.pushOK id ⟨true, id⟩ = ok at *
  obtain ⟨mo, hmo⟩ : ∃ o, o = (S.get id 4).obj := ⟨_, rfl⟩
  obtain ⟨mn, hmn⟩ : ∃ o, o = (S.get id 4).n := ⟨_, rfl⟩
  rw [← hmo, ← hmn] at C2
  clear hmo hmn
  go_enter Tryz.func23, Tryz.ntmps23
  go_wp2_with fail
  go_step3
  go_wp2_with fail
  refine (C1.out _).mono ?_
  rintro e w1 ⟨rfl, x1⟩
  have B5 := ((Blk.new w 50 #[.int .i64 22, .int .i64 a, .int .i64 b]).alloc (.cells #[.bool false, .int .i64 0] 40)).ext x1
  replace B5 := B5
  have B7 := (Blk.at_ (w := w.alloc (.cells #[.int .i64 22, .int .i64 a, .int .i64 b] 50)) (g := w.heap.size + 1) 40 #[.bool false, .int .i64 0] (by simp)).ext x1
  have i1 : IsExt w w1 := ⟨(((Ext.refl w).alloc _).alloc _).trans x1⟩
  clear x1 C1
  go_wp2_with fail
  refine (C2.out _).mono ?_
  rintro e w2 ⟨rfl, x2⟩
  replace B5 := (B5.ext x2).alloc (.cells #[.bool mo, .int .i64 mn] 40)
  replace B7 := (B7.ext x2).alloc (.cells #[.bool mo, .int .i64 mn] 40)
  have i2 : IsExt w w2 := ⟨i1.out.trans x2⟩
  obtain ⟨p1, p2, p3⟩ := B5.rules
  obtain ⟨q1, q2, q3⟩ := B7.rules
  clear x2 C2 i1
  generalize hg5 : w.heap.size = g at *
  have hne : g ≠ g + 1 := by omega
  go_wp2_with fail
  refine calls_name (fun w3 hW => ?_)
  have i3 : IsExt w w3 := ⟨by rw [hW]; exact ((i2.out.alloc _).setNew (p := ⟨g + 1, 0, none⟩) (show w.heap.size ≤ g + 1 by omega) _).setNew (p := ⟨g + 1, 1, none⟩) (show w.heap.size ≤ g + 1 by omega) _⟩
  clear hW i2 p1 p2 p3 q1 q2 q3
  refine (C3.out w3).mono ?_
  rintro e w4 ⟨rfl, m4, k4⟩
  have R := Lib.hid (show M w4 F m P ∧ Keep F w w4 from ⟨m4, (Keep.of_ext i3.out F).trans k4⟩)
  clear m4 k4 C3 i3
  go_wp2_with fail
  rw [Exit.noGoto_ret]
  go_ret
  exact ⟨ret_bool (by simp), R.out⟩
set_option maxRecDepth 100000 in
set_option maxHeartbeats 2000000 in
/-- a temp is pushed -/
theorem sdo2 (h : M w F m S) (hp : S.phase ≠ 1) {id : Int} (hf : S.isFrame id = true) (a b : Int) (ha : 0 ≤ a ∧ a < 16) : Calls Tryz.prog 23 #[.pointer (some ⟨m, 0, none⟩), .int .i64 id, .agg #[.int .i64 2, .int .i64 a, .int .i64 b]] w fun e w' => e = .returned (.bool (S.pushOK id (S.get id (6 + a)))) ∧ M w' F m (S.push id (S.get id (6 + a))) ∧ Keep F w w' := by
  have C1 := Lib.hid (fun W [x : IsExt w W] => fis (h.ext x.out) id)
  have C2 := Lib.hid (fun W [x : IsExt w W] => mget (h.ext x.out) id 4)
  have C3 := Lib.hid (fun W [x : IsExt w W] => fpush (h.ext x.out) hp id (S.get id (6 + a)))
  have ho : OutIs S id 0 (some id) := .inl ⟨0, rfl, by omega, hf, rfl⟩
  have CT := Lib.hid (fun W [x : IsExt w W] => ftemp (h.ext x.out) ho a (by omega))
  have tk : tempOK (some id) a = true := by unfold tempOK; rw [decide_eq_true ha]; rfl
  have tv : tempV S (some id) a = S.get id (6 + a) := by unfold tempV; rw [tk]; rfl
  rw [tk, tv] at CT
  clear tk tv ho
  have HF := Lib.hid h.lt
  rw [hf] at C1
  clear h hf hp ha
  generalize S.push id (S.get id (6 + a)) = P at *
  generalize S.pushOK id (S.get id (6 + a)) = ok at *
  generalize S.get id (6 + a) = v at *
  obtain ⟨vo, vn⟩ := v
  unfold val at *
  obtain ⟨mo, hmo⟩ : ∃ o, o = (S.get id 4).obj := ⟨_, rfl⟩
  obtain ⟨mn, hmn⟩ : ∃ o, o = (S.get id 4).n := ⟨_, rfl⟩
  rw [← hmo, ← hmn] at C2
  clear hmo hmn
  go_enter Tryz.func23, Tryz.ntmps23
  go_wp2_with fail
  go_step3
  go_wp2_with fail
  refine (C1.out _).mono ?_
  rintro e w1 ⟨rfl, x1⟩
  have B5 := ((Blk.new w 50 #[.int .i64 2, .int .i64 a, .int .i64 b]).alloc (.cells #[.bool false, .int .i64 0] 40)).ext x1
  replace B5 := B5
  have B7 := (Blk.at_ (w := w.alloc (.cells #[.int .i64 2, .int .i64 a, .int .i64 b] 50)) (g := w.heap.size + 1) 40 #[.bool false, .int .i64 0] (by simp)).ext x1
  have i1 : IsExt w w1 := ⟨(((Ext.refl w).alloc _).alloc _).trans x1⟩
  clear x1 C1
  go_wp2_with fail
  refine (C2.out _).mono ?_
  rintro e w2 ⟨rfl, x2⟩
  replace B5 := (B5.ext x2).alloc (.cells #[.bool mo, .int .i64 mn] 40)
  replace B7 := (B7.ext x2).alloc (.cells #[.bool mo, .int .i64 mn] 40)
  have i2 : IsExt w w2 := ⟨i1.out.trans x2⟩
  obtain ⟨p1, p2, p3⟩ := B5.rules
  have E7 := Lib.hid B7
  clear x2 C2 i1 B7 B5
  have hg : w.heap.size ≤ w.heap.size := Nat.le_refl _
  generalize hg5 : w.heap.size = g at *
  go_wp2_with fail
  refine calls_name (fun wt hW => ?_)
  have it : IsExt w wt := ⟨by rw [hW]; exact i2.out.alloc _⟩
  rw [← hW] at E7
  clear hW p1 p2 p3
  refine (CT.out wt).mono ?_
  rintro e wu ⟨rfl, xu⟩
  have i2u : IsExt w wu := ⟨it.out.trans xu⟩
  obtain ⟨q1, q2, q3⟩ := (E7.out.ext xu).rules
  clear i2 it xu CT
  go_wp2_with fail
  refine calls_name (fun w3 hW => ?_)
  have i3 : IsExt w w3 := ⟨by rw [hW]; exact (i2u.out.setNew (p := ⟨g + 1, 0, none⟩) (show w.heap.size ≤ g + 1 by omega) _).setNew (p := ⟨g + 1, 1, none⟩) (show w.heap.size ≤ g + 1 by omega) _⟩
  clear hW i2u q1 q2 q3 E7
  refine (C3.out w3).mono ?_
  rintro e w4 ⟨rfl, m4, k4⟩
  have R := Lib.hid (show M w4 F m P ∧ Keep F w w4 from ⟨m4, (Keep.of_ext i3.out F).trans k4⟩)
  clear m4 k4 C3 i3
  go_wp2_with fail
  rw [Exit.noGoto_ret]
  go_ret
  exact ⟨ret_bool (by simp), R.out⟩
set_option maxRecDepth 100000 in
set_option maxHeartbeats 2000000 in
/-- a temp is set -/
theorem sdo5 (h : M w F m S) (hp : S.phase ≠ 1) {id : Int} (hf : S.isFrame id = true) (hok : S.popOK id = true) (hf2 : (S.pop id).isFrame id = true) (a b : Int) (ha : 0 ≤ a ∧ a < 16) : Calls Tryz.prog 23 #[.pointer (some ⟨m, 0, none⟩), .int .i64 id, .agg #[.int .i64 5, .int .i64 a, .int .i64 b]] w fun e w' => e = .returned (.bool ((S.pop id).setOK id (6 + a) (S.get id (6 + S.sp id - 1)))) ∧ M w' F m ((S.pop id).set id (6 + a) (S.get id (6 + S.sp id - 1))) ∧ Keep F w w' := by
  have C1 := Lib.hid (fun W [x : IsExt w W] => fis (h.ext x.out) id)
  have C2 := Lib.hid (fun W [x : IsExt w W] => mget (h.ext x.out) id 4)
  have CD : Hid (∀ W, Calls Tryz.prog 52 #[.int .i64 5] W fun e w' => e = .returned (.bool true) ∧ Ext W w') := Lib.hid (fun W => sdoes W 5 (by omega))
  have C3 := Lib.hid (fun W [x : IsExt w W] => fpop (h.ext x.out) hp id hok)
  have HF := Lib.hid h.lt
  have hp1 : (S.pop id).phase ≠ 1 := by unfold MS.pop MS.pop1; rw [MS.set_phase, MS.set_phase]; exact hp
  rw [hf] at C1
  clear h hf hp hok
  generalize S.get id (6 + S.sp id - 1) = v at *
  generalize S.get id 4 = me at *
  generalize S.pop id = P at *
  obtain ⟨vo, vn⟩ := v
  obtain ⟨mo, mn⟩ := me
  have ho : OutIs P id 0 (some id) := .inl ⟨0, rfl, by omega, hf2, rfl⟩
  have CW : Hid (∀ W F, M W F m P → Calls Tryz.prog 53 #[.pointer (some ⟨m, 0, none⟩), .int .i64 id, .int .i64 0, .int .i64 a, val ⟨vo, vn⟩] W fun e w' => e = .returned (.bool (P.setOK id (6 + a) ⟨vo, vn⟩)) ∧ M w' F m (P.set id (6 + a) ⟨vo, vn⟩) ∧ Keep F W w') := Lib.hid (fun W F hM => fsettemp hM hp1 ho a ha ⟨vo, vn⟩)
  clear ho hf2 hp1 ha
  generalize P.setOK id (6 + a) ⟨vo, vn⟩ = so at *
  generalize P.set id (6 + a) ⟨vo, vn⟩ = P2 at *
  unfold val at *
  go_enter Tryz.func23, Tryz.ntmps23
  go_wp2_with fail
  refine wp_scope_once 0 rfl (fun J hJ => ?_)
  go_wp2_with fail
  refine (C1.out _).mono ?_
  rintro e w1 ⟨rfl, x1⟩
  have B5 := ((Blk.new w 50 #[.int .i64 5, .int .i64 a, .int .i64 b]).alloc (.cells #[.bool false, .int .i64 0] 40)).ext x1
  have B7 := (Blk.at_ (w := w.alloc (.cells #[.int .i64 5, .int .i64 a, .int .i64 b] 50)) (g := w.heap.size + 1) 40 #[.bool false, .int .i64 0] (by simp)).ext x1
  have i1 : IsExt w w1 := ⟨(((Ext.refl w).alloc _).alloc _).trans x1⟩
  clear x1 C1
  go_wp2_with fail
  refine (C2.out _).mono ?_
  rintro e w2 ⟨rfl, x2⟩
  have l7 := (B7.ext x2).lt
  replace B5 := (B5.ext x2).alloc (.cells #[.bool mo, .int .i64 mn] 40)
  replace B7 := (B7.ext x2).alloc (.cells #[.bool mo, .int .i64 mn] 40)
  have B9 := Blk.new w2 40 #[.bool mo, .int .i64 mn]
  have i2 : IsExt w w2 := ⟨i1.out.trans x2⟩
  have l2 := i2.out.below.size
  obtain ⟨p1, p2, p3⟩ := B5.rules
  clear x2 C2 i1
  generalize hg5 : w.heap.size = g at *
  go_wp2_with fail
  refine wp_goto ?_
  refine ⟨rfl, hJ _ _ ?_⟩
  refine wp_name (fun w3 hW => ?_)
  have i3 : IsExt w w3 := ⟨by rw [hW]; exact i2.out.alloc _⟩
  rw [← hW] at B5 B7
  replace B9 : Blk w3 w2.heap.size 40 #[.bool mo, .int .i64 mn] := by rw [hW]; exact B9
  obtain ⟨p1, p2, p3⟩ := B5.rules
  clear hW i2 hJ
  go_wp2_with fail
  refine (CD.out w3).mono ?_
  rintro e w4 ⟨rfl, x4⟩
  replace B5 := B5.ext x4
  replace B7 := B7.ext x4
  replace B9 := B9.ext x4
  have i4 : IsExt w w4 := ⟨i3.out.trans x4⟩
  clear x4 CD i3 p1 p2 p3
  go_wp2_with fail
  refine (C3.out w4).mono ?_
  rintro e w5 ⟨rfl, m5, k5⟩
  have nF : ∀ k, g ≤ k → ¬ F k := fun k hk hf => by have := HF.out _ hf; omega
  replace B5 := B5.keep k5 (nF g (Nat.le_refl _))
  replace B7 := B7.keep k5 (nF (g + 1) (by omega))
  replace B9 := B9.keep k5 (nF _ l2)
  have K5 := (Keep.of_ext i4.out F).trans k5
  have l9 := i4.out.below.size
  have hne : g ≠ g + 1 := by omega
  have hne' : g + 1 ≠ g := by omega
  have hne9 : w2.heap.size ≠ g + 1 := by omega
  have hne9' : g + 1 ≠ w2.heap.size := by omega
  obtain ⟨q1, q2, q3⟩ := B7.rules
  clear k5 C3 i4
  go_upto_region 36 with (fail)
  refine wp_name (fun w6 hW => ?_)
  have B5' : Blk w6 g 50 #[.int .i64 5, .int .i64 a, .int .i64 b] := by rw [hW]; exact (B5.far hne _).far hne _
  have B7' : Blk w6 (g + 1) 40 #[.bool vo, .int .i64 vn] := by rw [hW]; exact (B7.set 0 _).set 1 _
  have B9' : Blk w6 w2.heap.size 40 #[.bool mo, .int .i64 mn] := by rw [hW]; exact (B9.far hne9 _).far hne9 _
  have M6 : M w6 F m P := by rw [hW]; exact m5.far (((Keep.refl (· = g + 1) w5).setCell (p := ⟨g + 1, 0, none⟩) rfl _).setCell (p := ⟨g + 1, 1, none⟩) rfl _) (fun j e hf => nF (g + 1) (by omega) (e ▸ hf))
  have K6 : Keep F w w6 := by rw [hW]; exact (K5.setNew (p := ⟨g + 1, 0, none⟩) (show w.heap.size ≤ g + 1 by omega) _).setNew (p := ⟨g + 1, 1, none⟩) (show w.heap.size ≤ g + 1 by omega) _
  clear hW B5 B7 B9 m5 K5 q1 q2 q3
  have E5 := Lib.hid B5'
  have E7 := Lib.hid B7'
  have MH := Lib.hid M6
  have KH := Lib.hid K6
  obtain ⟨p1, p2, p3⟩ := E5.out.rules
  obtain ⟨q1, q2, q3⟩ := E7.out.rules
  clear B5' B7' B9' M6 K6 hne hne' hne9 hne9' l2 l7 l9 nF
  go_wp2_with fail
  refine (CW.out _ _ MH.out).mono ?_
  rintro e w9 ⟨rfl, m9, k9⟩
  have R := Lib.hid (show M w9 F m P2 ∧ Keep F w w9 from ⟨m9, KH.out.trans k9⟩)
  clear m9 k9 CW
  go_wp2_with fail
  rw [Exit.noGoto_ret]
  go_ret
  exact ⟨ret_bool (by simp), R.out⟩
end
end Go.Proofs.YtnhijjcplnomgaaGreat.World
namespace Go.Proofs.YtnhijjcplnomgaaGreat.World
open Go.RowKit Go.Proofs.YtnhijjcplnomgaaGreat.Plain
set_option linter.unusedVariables false
attribute [local go_sem ↓] Go.wp_at_zero Go.wp_at_succ
namespace MS
/-- lit: the literal a of the frame's method is pushed, if there is one -/
def plOK (S : MS) (id a : Int) : Bool := S.hasF (S.get id 3) (4 + a) && S.pushOK id (S.get (S.get id 3).n (4 + a))
def pl (S : MS) (id a : Int) : MS := if S.hasF (S.get id 3) (4 + a) = true then S.push id (S.get (S.get id 3).n (4 + a)) else S
end MS
/-! ### a field of the receiver: a region whose calls come in any order -/
structure LI (w : World) (m g g9 : Nat) (id op a b : Int) (mo : Bool) (mn : Int) (vo : Bool) (vn : Int) (ok : Bool) (L : Nat → Bool) (s : Nat → Value) (W : World) : Prop where
  v0 : L 0 = true → s 38 = .pointer (some ⟨m, 0, none⟩)
  v1 : L 1 = true → s 39 = .pointer (some ⟨g9, 1, none⟩)
  v2 : L 2 = true → s 40 = .int .i64 mn
  v3 : L 3 = true → s 41 = .pointer (some ⟨g, 1, none⟩)
  v4 : L 4 = true → s 42 = .int .i64 a
  v5 : L 5 = true → s 43 = .int .i64 (4 + a)
  v6 : L 6 = true → s 44 = .agg #[.bool vo, .int .i64 vn]
  v7 : L 7 = true → s 45 = .pointer (some ⟨m, 0, none⟩)
  v8 : L 8 = true → s 46 = .agg #[.bool mo, .int .i64 mn]
  v9 : L 9 = true → s 47 = .pointer (some ⟨g, 1, none⟩)
  v10 : L 10 = true → s 48 = .int .i64 a
  v11 : L 11 = true → s 49 = .int .i64 (4 + a)
  v12 : L 12 = true → s 50 = .bool ok
  v14 : L 14 = true → s 8 = .bool ok
  x : Ext w W
  bi : Blk W g 50 #[.int .i64 op, .int .i64 a, .int .i64 b]
  bm : Blk W g9 40 #[.bool mo, .int .i64 mn]
  va : L 13 = false → Blk W (g + 1) 40 #[.bool false, .int .i64 0]
  vb : L 13 = true → Blk W (g + 1) 40 #[.bool vo, .int .i64 vn]
def frL (m g g9 : Nat) (id : Int) (u s : Nat → Value) : Act := { tmps := #[.pointer (some ⟨m, 0, none⟩), .int .i64 id, u 2, u 3, u 4, .pointer (some ⟨g, 0, none⟩), u 6, .pointer (some ⟨g + 1, 0, none⟩), s 8, u 9, .pointer (some ⟨g9, 0, none⟩), u 11, u 12, u 13, u 14, u 15, u 16, u 17, u 18, u 19, u 20, u 21, u 22, u 23, u 24, u 25, u 26, u 27, u 28, u 29, u 30, u 31, u 32, u 33, u 34, u 35, u 36, u 37, s 38, s 39, s 40, s 41, s 42, s 43, s 44, s 45, s 46, s 47, s 48, s 49, s 50, u 51, u 52, u 53, u 54, u 55, u 56, u 57, u 58, u 59, u 60, u 61, u 62, u 63, u 64, u 65, u 66, u 67, u 68, u 69, u 70, u 71, u 72, u 73, u 74, u 75, u 76, u 77, u 78, u 79, u 80, u 81, u 82, u 83, u 84, u 85, u 86, u 87, u 88, u 89, u 90, u 91, u 92, u 93, u 94, u 95, u 96, u 97, u 98, u 99, u 100, u 101, u 102, u 103, u 104, u 105, u 106, u 107, u 108, u 109, u 110, u 111, u 112, u 113, u 114, u 115, u 116, u 117, u 118, u 119, u 120, u 121, u 122, u 123, u 124, u 125, u 126, u 127, u 128, u 129, u 130, u 131, u 132, u 133, u 134, u 135, u 136, u 137, u 138, u 139, u 140, u 141, u 142, u 143, u 144, u 145, u 146, u 147, u 148, u 149, u 150, u 151, u 152, u 153, u 154, u 155, u 156, u 157, u 158, u 159, u 160, u 161, u 162, u 163, u 164, u 165, u 166, u 167, u 168, u 169, u 170, u 171, u 172, u 173, u 174, u 175, u 176, u 177, u 178, u 179, u 180, u 181, u 182, u 183, u 184, u 185, u 186, u 187, u 188, u 189, u 190, u 191, u 192, u 193, u 194, u 195, u 196, u 197, u 198, u 199, u 200, u 201, u 202, u 203, u 204, u 205, u 206], defers := [] }
def LInv (w : World) (m g g9 : Nat) (id op a b : Int) (mo : Bool) (mn : Int) (vo : Bool) (vn : Int) (ok : Bool) (u : Nat → Value) (listed : Array Bool) (act : Act) (W : World) : Prop :=
  ∃ L : Nat → Bool, (∀ k, listed.getD k false = L k) ∧ ∃ s : Nat → Value, act = frL m g g9 id u s ∧ listed.size = 15 ∧ LI w m g g9 id op a b mo mn vo vn ok L s W
section
variable {w w' w2 : World} {F F' F2 : Nat → Prop} {m : Nat} {S S' : MS} {X : MX}
set_option maxRecDepth 100000 in
set_option maxHeartbeats 4000000 in
theorem sdo3 (h : M w F m S) (hp : S.phase ≠ 1) {id : Int} (hf : S.isFrame id = true) (a b : Int) (ha : 0 ≤ a ∧ a ≤ 1000) : Calls Tryz.prog 23 #[.pointer (some ⟨m, 0, none⟩), .int .i64 id, .agg #[.int .i64 3, .int .i64 a, .int .i64 b]] w fun e w' => e = .returned (.bool (S.plOK id a)) ∧ M w' F m (S.pl id a) ∧ Keep F w w' ∧ (S.hasF (S.get id 3) (4 + a) = false → Ext w w') := by
  have C1 := Lib.hid (fun W [x : IsExt w W] => fis (h.ext x.out) id)
  have C2 := Lib.hid (fun W [x : IsExt w W] => mget (h.ext x.out) id 4)
  have C4 := Lib.hid (fun W [x : IsExt w W] => mget (h.ext x.out) id 3)
  have CG := Lib.hid (fun W [x : IsExt w W] => mget (h.ext x.out) (S.get id 3).n (4 + a))
  have CH := Lib.hid (fun W [x : IsExt w W] => shas (h.ext x.out) (S.get id 3) (4 + a))
  have C3 := Lib.hid (fun W [x : IsExt w W] => fpush (h.ext x.out) hp id (S.get (S.get id 3).n (4 + a)))
  have HM := Lib.hid h
  have hadd : IntKind.i64.wrap (4 + a) = 4 + a := IntWalk.i64_in _ (by omega)
  rw [hf] at C1
  have EO : Hid (S.plOK id a = (S.hasF (S.get id 3) (4 + a) && S.pushOK id (S.get (S.get id 3).n (4 + a)))) := Lib.hid rfl
  have ES : Hid (S.pl id a = if S.hasF (S.get id 3) (4 + a) = true then S.push id (S.get (S.get id 3).n (4 + a)) else S) := Lib.hid rfl
  clear h hf hp ha
  generalize S.plOK id a = res at *
  generalize S.pl id a = RS at *
  generalize S.hasF (S.get id 3) (4 + a) = ok at *
  generalize S.get (S.get id 3).n (4 + a) = v at *
  generalize S.pushOK id v = po at *
  generalize S.push id v = P at *
  generalize S.get id 3 = me at *
  obtain ⟨vo, vn⟩ := v
  obtain ⟨mo, mn⟩ := me
  generalize S.get id 4 = self at *
  obtain ⟨so, sn⟩ := self
  unfold val at *
  go_enter Tryz.func23, Tryz.ntmps23
  go_wp2_with fail
  go_step3
  go_wp2_with fail
  refine (C1.out _).mono ?_
  rintro e w1 ⟨rfl, x1⟩
  have B5 := ((Blk.new w 50 #[.int .i64 3, .int .i64 a, .int .i64 b]).alloc (.cells #[.bool false, .int .i64 0] 40)).ext x1
  have B7 := (Blk.at_ (w := w.alloc (.cells #[.int .i64 3, .int .i64 a, .int .i64 b] 50)) (g := w.heap.size + 1) 40 #[.bool false, .int .i64 0] (by simp)).ext x1
  have i1 : IsExt w w1 := ⟨(((Ext.refl w).alloc _).alloc _).trans x1⟩
  clear x1 C1
  go_wp2_with fail
  refine (C2.out _).mono ?_
  rintro e w2 ⟨rfl, x2⟩
  have l7 := (B7.ext x2).lt
  replace B5 := (B5.ext x2).alloc (.cells #[.bool so, .int .i64 sn] 40)
  replace B7 := (B7.ext x2).alloc (.cells #[.bool so, .int .i64 sn] 40)
  have i2 : IsExt w w2 := ⟨i1.out.trans x2⟩
  obtain ⟨p1, p2, p3⟩ := B5.rules
  clear x2 C2 i1
  generalize hg5 : w.heap.size = g at *
  go_upto_region 12 with (fail)
  refine wp_name (fun w3 hW => ?_)
  rw [← hW] at B5 B7
  have i3 : IsExt w w3 := ⟨by rw [hW]; exact i2.out.alloc _⟩
  have l3 : w2.heap.size ≤ w3.heap.size := by rw [hW]; simp
  clear hW p1 p2 p3
  go_upto_region 13 with (first | (go_at_call 24; refine (C4.out _).mono ?_; rintro e w4 ⟨rfl, x4⟩; replace B5 := (B5.ext x4).alloc (.cells #[.bool mo, .int .i64 mn] 40); replace B7 := (B7.ext x4).alloc (.cells #[.bool mo, .int .i64 mn] 40); have B9 := Blk.new w4 40 #[.bool mo, .int .i64 mn]; have i4 : IsExt w w4 := ⟨i3.out.trans x4⟩; have l4 := x4.below.size; clear x4 C4 i3))
  refine wp_name (fun w6 hW => ?_)
  rw [← hW] at B5 B7 B9
  have X6 : Hid (Ext w w6) := Lib.hid (by rw [hW]; exact i4.out.alloc _)
  have E5 := Lib.hid B5
  have E7 := Lib.hid B7
  have E9 := Lib.hid B9
  have hne : g ≠ g + 1 := by omega
  have hne9 : w4.heap.size ≠ g + 1 := by omega
  have hg1 : w.heap.size ≤ g + 1 := by omega
  clear hW i4 i2 B5 B7 B9 l3 l4 l7
  generalize w4.heap.size = g9 at *
  refine wp_any_act (fun A hA => ?_)
  have eA : A = frL m g g9 id (fun q => A.tmps.getD q undef) (fun q => A.tmps.getD q undef) := by rw [hA]; rfl
  clear hA
  generalize (fun q => A.tmps.getD q undef) = u at eA
  subst eA
  refine wp_region_inv (Inv := LInv w m g g9 id 3 a b mo mn vo vn ok u) (by kernel_rfl) ?_ ?_ ?_
  · refine ⟨fun _ => false, fun k => ?_, u, rfl, by simp, ⟨?_, ?_, ?_, ?_, ?_, ?_, ?_, ?_, ?_, ?_, ?_, ?_, ?_, ?_, ?_, ?_, ?_, ?_, ?_⟩⟩
    · rw [Array.getD_eq_getD_getElem?, Array.getElem?_replicate]; split <;> rfl
    · intro h; exact absurd h (by decide)
    · intro h; exact absurd h (by decide)
    · intro h; exact absurd h (by decide)
    · intro h; exact absurd h (by decide)
    · intro h; exact absurd h (by decide)
    · intro h; exact absurd h (by decide)
    · intro h; exact absurd h (by decide)
    · intro h; exact absurd h (by decide)
    · intro h; exact absurd h (by decide)
    · intro h; exact absurd h (by decide)
    · intro h; exact absurd h (by decide)
    · intro h; exact absurd h (by decide)
    · intro h; exact absurd h (by decide)
    · intro h; exact absurd h (by decide)
    · exact X6.out.drew
    · exact E5.out.drew
    · exact E9.out.drew
    · exact fun _ => E7.out.drew
    · intro h; exact absurd h (by decide)
  · rintro listed act W ii ⟨L, hL, s, rfl, hsz, I⟩ hi
    obtain ⟨hlt, hnot, hdep⟩ := (ready_iff _ _).1 hi
    have hiN : ii < 15 := hlt
    have casesN : ii = 0 ∨ ii = 1 ∨ ii = 2 ∨ ii = 3 ∨ ii = 4 ∨ ii = 5 ∨ ii = 6 ∨ ii = 7 ∨ ii = 8 ∨ ii = 9 ∨ ii = 10 ∨ ii = 11 ∨ ii = 12 ∨ ii = 13 ∨ ii = 14 := by omega
    have hn0 : L ii = false := by rw [← hL ii]; exact not_bit hnot
    clear hi hlt hiN hnot
    have iW : IsExt w W := ⟨I.x⟩
    obtain ⟨p1, p2, p3⟩ := I.bi.rules
    obtain ⟨r1, r2, r3⟩ := I.bm.rules
    unfold frL
    rcases casesN with rfl | rfl | rfl | rfl | rfl | rfl | rfl | rfl | rfl | rfl | rfl | rfl | rfl | rfl | rfl
    · -- operation 0
      simp only [Region.binds, listed_bit hL] at hdep
      refine wpOp_step rfl (fun K' hK => ?_)
      go_simp
      exact hK _ _ ⟨_, bit_set hL hsz 0 (by omega), fun j => if j = 38 then .pointer (some ⟨m, 0, none⟩) else s j, by first | (simp [frL]; done) | (simp [frL]; rfl), by simpa using hsz, ⟨fun _ => rfl, I.v1, I.v2, I.v3, I.v4, I.v5, I.v6, I.v7, I.v8, I.v9, I.v10, I.v11, I.v12, I.v14, I.x, I.bi, I.bm, I.va, I.vb⟩⟩
    · -- operation 1
      simp only [Region.binds, listed_bit hL] at hdep
      refine wpOp_step rfl (fun K' hK => ?_)
      go_simp
      exact hK _ _ ⟨_, bit_set hL hsz 1 (by omega), fun j => if j = 39 then .pointer (some ⟨g9, 1, none⟩) else s j, by first | (simp [frL]; done) | (simp [frL]; rfl), by simpa using hsz, ⟨I.v0, fun _ => rfl, I.v2, I.v3, I.v4, I.v5, I.v6, I.v7, I.v8, I.v9, I.v10, I.v11, I.v12, I.v14, I.x, I.bi, I.bm, I.va, I.vb⟩⟩
    · -- operation 2
      simp only [Region.binds, listed_bit hL] at hdep
      have d1 : L 1 = true := by first | simpa [hL] using hdep | (simp [hL, Region.binds] at hdep; simp [hdep])
      have e1 := I.v1 d1
      refine wpOp_step rfl (fun K' hK => ?_)
      rw [e1]
      go_simp
      exact hK _ _ ⟨_, bit_set hL hsz 2 (by omega), fun j => if j = 40 then .int .i64 mn else s j, by first | (simp [frL, e1]; done) | (simp [frL, e1]; rfl), by simpa using hsz, ⟨I.v0, I.v1, fun _ => rfl, I.v3, I.v4, I.v5, I.v6, I.v7, I.v8, I.v9, I.v10, I.v11, I.v12, I.v14, I.x, I.bi, I.bm, I.va, I.vb⟩⟩
    · -- operation 3
      simp only [Region.binds, listed_bit hL] at hdep
      refine wpOp_step rfl (fun K' hK => ?_)
      go_simp
      exact hK _ _ ⟨_, bit_set hL hsz 3 (by omega), fun j => if j = 41 then .pointer (some ⟨g, 1, none⟩) else s j, by first | (simp [frL]; done) | (simp [frL]; rfl), by simpa using hsz, ⟨I.v0, I.v1, I.v2, fun _ => rfl, I.v4, I.v5, I.v6, I.v7, I.v8, I.v9, I.v10, I.v11, I.v12, I.v14, I.x, I.bi, I.bm, I.va, I.vb⟩⟩
    · -- operation 4
      simp only [Region.binds, listed_bit hL] at hdep
      have d3 : L 3 = true := by first | simpa [hL] using hdep | (simp [hL, Region.binds] at hdep; simp [hdep])
      have e3 := I.v3 d3
      refine wpOp_step rfl (fun K' hK => ?_)
      rw [e3]
      go_simp
      exact hK _ _ ⟨_, bit_set hL hsz 4 (by omega), fun j => if j = 42 then .int .i64 a else s j, by first | (simp [frL, e3]; done) | (simp [frL, e3]; rfl), by simpa using hsz, ⟨I.v0, I.v1, I.v2, I.v3, fun _ => rfl, I.v5, I.v6, I.v7, I.v8, I.v9, I.v10, I.v11, I.v12, I.v14, I.x, I.bi, I.bm, I.va, I.vb⟩⟩
    · -- operation 5
      simp only [Region.binds, listed_bit hL] at hdep
      have d4 : L 4 = true := by first | simpa [hL] using hdep | (simp [hL, Region.binds] at hdep; simp [hdep])
      have e4 := I.v4 d4
      refine wpOp_step rfl (fun K' hK => ?_)
      rw [e4]
      go_simp
      exact hK _ _ ⟨_, bit_set hL hsz 5 (by omega), fun j => if j = 43 then .int .i64 (4 + a) else s j, by first | (simp [frL, e4]; done) | (simp [frL, e4]; rfl), by simpa using hsz, ⟨I.v0, I.v1, I.v2, I.v3, I.v4, fun _ => rfl, I.v6, I.v7, I.v8, I.v9, I.v10, I.v11, I.v12, I.v14, I.x, I.bi, I.bm, I.va, I.vb⟩⟩
    · -- operation 6
      simp only [Region.binds, listed_bit hL] at hdep
      have d0 : L 0 = true := by first | simpa [hL] using hdep | (simp [hL, Region.binds] at hdep; simp [hdep])
      have e0 := I.v0 d0
      have d2 : L 2 = true := by first | simpa [hL] using hdep | (simp [hL, Region.binds] at hdep; simp [hdep])
      have e2 := I.v2 d2
      have d5 : L 5 = true := by first | simpa [hL] using hdep | (simp [hL, Region.binds] at hdep; simp [hdep])
      have e5 := I.v5 d5
      refine wpOp_step rfl (fun K' hK => ?_)
      rw [e0, e2, e5]
      go_simp
      refine (CG.out _).mono ?_
      rintro e w3 ⟨rfl, x3⟩
      exact hK _ _ ⟨_, bit_set hL hsz 6 (by omega), fun j => if j = 44 then .agg #[.bool vo, .int .i64 vn] else s j, by first | (simp [frL, e0, e2, e5]; done) | (simp [frL, e0, e2, e5]; rfl), by simpa using hsz, ⟨I.v0, I.v1, I.v2, I.v3, I.v4, I.v5, fun _ => rfl, I.v7, I.v8, I.v9, I.v10, I.v11, I.v12, I.v14, I.x.trans x3, I.bi.ext x3, I.bm.ext x3, fun h => (I.va h).ext x3, fun h => (I.vb h).ext x3⟩⟩
    · -- operation 7
      simp only [Region.binds, listed_bit hL] at hdep
      refine wpOp_step rfl (fun K' hK => ?_)
      go_simp
      exact hK _ _ ⟨_, bit_set hL hsz 7 (by omega), fun j => if j = 45 then .pointer (some ⟨m, 0, none⟩) else s j, by first | (simp [frL]; done) | (simp [frL]; rfl), by simpa using hsz, ⟨I.v0, I.v1, I.v2, I.v3, I.v4, I.v5, I.v6, fun _ => rfl, I.v8, I.v9, I.v10, I.v11, I.v12, I.v14, I.x, I.bi, I.bm, I.va, I.vb⟩⟩
    · -- operation 8
      simp only [Region.binds, listed_bit hL] at hdep
      refine wpOp_step rfl (fun K' hK => ?_)
      go_simp
      exact hK _ _ ⟨_, bit_set hL hsz 8 (by omega), fun j => if j = 46 then .agg #[.bool mo, .int .i64 mn] else s j, by first | (simp [frL]; done) | (simp [frL]; rfl), by simpa using hsz, ⟨I.v0, I.v1, I.v2, I.v3, I.v4, I.v5, I.v6, I.v7, fun _ => rfl, I.v9, I.v10, I.v11, I.v12, I.v14, I.x, I.bi, I.bm, I.va, I.vb⟩⟩
    · -- operation 9
      simp only [Region.binds, listed_bit hL] at hdep
      refine wpOp_step rfl (fun K' hK => ?_)
      go_simp
      exact hK _ _ ⟨_, bit_set hL hsz 9 (by omega), fun j => if j = 47 then .pointer (some ⟨g, 1, none⟩) else s j, by first | (simp [frL]; done) | (simp [frL]; rfl), by simpa using hsz, ⟨I.v0, I.v1, I.v2, I.v3, I.v4, I.v5, I.v6, I.v7, I.v8, fun _ => rfl, I.v10, I.v11, I.v12, I.v14, I.x, I.bi, I.bm, I.va, I.vb⟩⟩
    · -- operation 10
      simp only [Region.binds, listed_bit hL] at hdep
      have d9 : L 9 = true := by first | simpa [hL] using hdep | (simp [hL, Region.binds] at hdep; simp [hdep])
      have e9 := I.v9 d9
      refine wpOp_step rfl (fun K' hK => ?_)
      rw [e9]
      go_simp
      exact hK _ _ ⟨_, bit_set hL hsz 10 (by omega), fun j => if j = 48 then .int .i64 a else s j, by first | (simp [frL, e9]; done) | (simp [frL, e9]; rfl), by simpa using hsz, ⟨I.v0, I.v1, I.v2, I.v3, I.v4, I.v5, I.v6, I.v7, I.v8, I.v9, fun _ => rfl, I.v11, I.v12, I.v14, I.x, I.bi, I.bm, I.va, I.vb⟩⟩
    · -- operation 11
      simp only [Region.binds, listed_bit hL] at hdep
      have d10 : L 10 = true := by first | simpa [hL] using hdep | (simp [hL, Region.binds] at hdep; simp [hdep])
      have e10 := I.v10 d10
      refine wpOp_step rfl (fun K' hK => ?_)
      rw [e10]
      go_simp
      exact hK _ _ ⟨_, bit_set hL hsz 11 (by omega), fun j => if j = 49 then .int .i64 (4 + a) else s j, by first | (simp [frL, e10]; done) | (simp [frL, e10]; rfl), by simpa using hsz, ⟨I.v0, I.v1, I.v2, I.v3, I.v4, I.v5, I.v6, I.v7, I.v8, I.v9, I.v10, fun _ => rfl, I.v12, I.v14, I.x, I.bi, I.bm, I.va, I.vb⟩⟩
    · -- operation 12
      simp only [Region.binds, listed_bit hL] at hdep
      have d7 : L 7 = true := by first | simpa [hL] using hdep | (simp [hL, Region.binds] at hdep; simp [hdep])
      have e7 := I.v7 d7
      have d8 : L 8 = true := by first | simpa [hL] using hdep | (simp [hL, Region.binds] at hdep; simp [hdep])
      have e8 := I.v8 d8
      have d11 : L 11 = true := by first | simpa [hL] using hdep | (simp [hL, Region.binds] at hdep; simp [hdep])
      have e11 := I.v11 d11
      refine wpOp_step rfl (fun K' hK => ?_)
      rw [e7, e8, e11]
      go_simp
      refine (CH.out _).mono ?_
      rintro e w3 ⟨rfl, x3⟩
      exact hK _ _ ⟨_, bit_set hL hsz 12 (by omega), fun j => if j = 50 then .bool ok else s j, by first | (simp [frL, e7, e8, e11]; done) | (simp [frL, e7, e8, e11]; rfl), by simpa using hsz, ⟨I.v0, I.v1, I.v2, I.v3, I.v4, I.v5, I.v6, I.v7, I.v8, I.v9, I.v10, I.v11, fun _ => rfl, I.v14, I.x.trans x3, I.bi.ext x3, I.bm.ext x3, fun h => (I.va h).ext x3, fun h => (I.vb h).ext x3⟩⟩
    · -- operation 13
      simp only [Region.binds, listed_bit hL] at hdep
      have d6 : L 6 = true := by first | simpa [hL] using hdep | (simp [hL, Region.binds] at hdep; simp [hdep])
      have e6 := I.v6 d6
      have hV := I.va hn0
      obtain ⟨q1, q2, q3⟩ := hV.rules
      refine wpOp_step rfl (fun K' hK => ?_)
      rw [e6]
      have IX := Lib.hid I
      have HV := Lib.hid hV
      clear I hV
      go_simp
      exact hK _ _ ⟨_, bit_set hL hsz 13 (by omega), s, by first | (simp [frL, e6]; done) | (simp [frL, e6]; rfl), by simpa using hsz, ⟨IX.out.v0, IX.out.v1, IX.out.v2, IX.out.v3, IX.out.v4, IX.out.v5, IX.out.v6, IX.out.v7, IX.out.v8, IX.out.v9, IX.out.v10, IX.out.v11, IX.out.v12, IX.out.v14, (IX.out.x.setNew (p := ⟨g + 1, 0, none⟩) hg1 _).setNew (p := ⟨g + 1, 1, none⟩) hg1 _, (IX.out.bi.far hne _).far hne _, (IX.out.bm.far hne9 _).far hne9 _, fun h => absurd h (by simp), fun _ => (HV.out.set 0 _).set 1 _⟩⟩
    · -- operation 14
      simp only [Region.binds, listed_bit hL] at hdep
      have d12 : L 12 = true := by first | simpa [hL] using hdep | (simp [hL, Region.binds] at hdep; simp [hdep])
      have e12 := I.v12 d12
      refine wpOp_step rfl (fun K' hK => ?_)
      rw [e12]
      go_simp
      exact hK _ _ ⟨_, bit_set hL hsz 14 (by omega), fun j => if j = 8 then .bool ok else s j, by first | (simp [frL, e12]; done) | (simp [frL, e12]; rfl), by simpa using hsz, ⟨I.v0, I.v1, I.v2, I.v3, I.v4, I.v5, I.v6, I.v7, I.v8, I.v9, I.v10, I.v11, I.v12, fun _ => rfl, I.x, I.bi, I.bm, I.va, I.vb⟩⟩
  · rintro listed act W ⟨L, hL, s, rfl, hsz, I⟩ hr
    have ALL : ∀ i, i < 15 → L i = true := fun i hi => by rw [← hL i]; exact all_listed_m (by kernel_rfl) hsz hr i hi
    have b7 := I.vb (ALL 13 (by omega))
    have e8 := I.v14 (ALL 14 (by omega))
    have hx := I.x
    clear I hL ALL hr hsz
    unfold frL
    dsimp only
    rw [e8]
    have X7 := Lib.hid hx
    have i7 : IsExt w W := ⟨hx⟩
    obtain ⟨q1, q2, q3⟩ := b7.rules
    clear hx CG CH
    cases ok with
    | false =>
      have er : res = false := EO.out
      have es : RS = S := ES.out
      subst er es
      clear EO ES C3 b7
      go_wp2_with fail
      rw [Exit.noGoto_ret]
      go_ret
      exact ⟨rfl, HM.out.ext X7.out, Keep.of_ext X7.out F, fun _ => X7.out⟩
    | true =>
      have er : res = po := EO.out
      have es : RS = P := ES.out
      subst er es
      clear EO ES b7
      go_wp2_with fail
      refine (C3.out _).mono ?_
      rintro e w8 ⟨rfl, m8, k8⟩
      have R := Lib.hid (show M w8 F m RS ∧ Keep F w w8 from ⟨m8, (Keep.of_ext X7.out F).trans k8⟩)
      clear m8 k8 C3
      go_wp2_with fail
      rw [Exit.noGoto_ret]
      go_ret
      exact ⟨ret_bool (by simp), R.out.1, R.out.2, fun c => absurd c (by decide)⟩
set_option maxRecDepth 100000 in
set_option maxHeartbeats 2000000 in
/-- what is no instruction of these: nothing is done -/
theorem sdo11 (h : M w F m S) {id : Int} (hf : S.isFrame id = true) (a b : Int) : Calls Tryz.prog 23 #[.pointer (some ⟨m, 0, none⟩), .int .i64 id, .agg #[.int .i64 11, .int .i64 a, .int .i64 b]] w fun e w' => e = .returned (.bool false) ∧ Ext w w' := by
  have C1 := Lib.hid (fun W [x : IsExt w W] => fis (h.ext x.out) id)
  have C2 := Lib.hid (fun W [x : IsExt w W] => mget (h.ext x.out) id 4)
  have CD : Hid (∀ W, Calls Tryz.prog 52 #[.int .i64 11] W fun e w' => e = .returned (.bool false) ∧ Ext W w') := Lib.hid (fun W => sdoes W 11 (by omega))
  rw [hf] at C1
  clear h hf
  generalize S.get id 4 = me at *
  obtain ⟨mo, mn⟩ := me
  unfold val at *
  go_enter Tryz.func23, Tryz.ntmps23
  go_wp2_with fail
  refine wp_scope_once 0 rfl (fun J hJ => ?_)
  go_wp2_with fail
  refine (C1.out _).mono ?_
  rintro e w1 ⟨rfl, x1⟩
  have B5 := ((Blk.new w 50 #[.int .i64 11, .int .i64 a, .int .i64 b]).alloc (.cells #[.bool false, .int .i64 0] 40)).ext x1
  have i1 : IsExt w w1 := ⟨(((Ext.refl w).alloc _).alloc _).trans x1⟩
  clear x1 C1
  go_wp2_with fail
  refine (C2.out _).mono ?_
  rintro e w2 ⟨rfl, x2⟩
  replace B5 := (B5.ext x2).alloc (.cells #[.bool mo, .int .i64 mn] 40)
  have i2 : IsExt w w2 := ⟨i1.out.trans x2⟩
  obtain ⟨p1, p2, p3⟩ := B5.rules
  clear x2 C2 i1
  generalize hg5 : w.heap.size = g at *
  go_wp2_with fail
  refine wp_goto ?_
  refine ⟨rfl, hJ _ _ ?_⟩
  refine wp_name (fun w3 hW => ?_)
  have i3 : IsExt w w3 := ⟨by rw [hW]; exact i2.out.alloc _⟩
  rw [← hW] at B5
  obtain ⟨p1, p2, p3⟩ := B5.rules
  clear hW i2 hJ
  go_wp2_with fail
  refine (CD.out w3).mono ?_
  rintro e w4 ⟨rfl, x4⟩
  have X4 := Lib.hid (i3.out.trans x4)
  clear x4 CD i3 p1 p2 p3
  go_wp2_with fail
  rw [Exit.noGoto_ret]
  go_ret
  exact ⟨rfl, X4.out⟩
set_option maxRecDepth 100000 in
set_option maxHeartbeats 2000000 in
/-- a constant beyond the last one: nothing is done -/
theorem sdo10_no (h : M w F m S) {id : Int} (hf : S.isFrame id = true) (b : Int) : Calls Tryz.prog 23 #[.pointer (some ⟨m, 0, none⟩), .int .i64 id, .agg #[.int .i64 10, .int .i64 3, .int .i64 b]] w fun e w' => e = .returned (.bool false) ∧ Ext w w' := by
  have C1 := Lib.hid (fun W [x : IsExt w W] => fis (h.ext x.out) id)
  have C2 := Lib.hid (fun W [x : IsExt w W] => mget (h.ext x.out) id 4)
  have CF := Lib.hid (fun W [x : IsExt w W] => mfirst (h.ext x.out) 2)
  rw [hf] at C1
  clear h hf
  generalize S.get id 4 = me at *
  obtain ⟨mo, mn⟩ := me
  unfold val objV at *
  go_enter Tryz.func23, Tryz.ntmps23
  go_wp2_with fail
  go_step3
  go_wp2_with fail
  refine (C1.out _).mono ?_
  rintro e w1 ⟨rfl, x1⟩
  have B5 := ((Blk.new w 50 #[.int .i64 10, .int .i64 3, .int .i64 b]).alloc (.cells #[.bool false, .int .i64 0] 40)).ext x1
  have B7 := (Blk.at_ (w := w.alloc (.cells #[.int .i64 10, .int .i64 3, .int .i64 b] 50)) (g := w.heap.size + 1) 40 #[.bool false, .int .i64 0] (by simp)).ext x1
  have i1 : IsExt w w1 := ⟨(((Ext.refl w).alloc _).alloc _).trans x1⟩
  clear x1 C1
  go_wp2_with fail
  refine (C2.out _).mono ?_
  rintro e w2 ⟨rfl, x2⟩
  replace B5 := (B5.ext x2).alloc (.cells #[.bool mo, .int .i64 mn] 40)
  replace B7 := (B7.ext x2).alloc (.cells #[.bool mo, .int .i64 mn] 40)
  have i2 : IsExt w w2 := ⟨i1.out.trans x2⟩
  obtain ⟨p1, p2, p3⟩ := B5.rules
  obtain ⟨q1, q2, q3⟩ := B7.rules
  clear x2 C2 i1
  generalize hg5 : w.heap.size = g at *
  have hne : g ≠ g + 1 := by omega
  go_upto_region 21 with (fail)
  refine wp_name (fun w6 hW => ?_)
  have x6 : Ext w w6 := by rw [hW]; exact i2.out.alloc _
  rw [← hW] at B5 B7
  have E5 := Lib.hid B5
  have E7 := Lib.hid B7
  have i6 : IsExt w w6 := ⟨x6⟩
  obtain ⟨p1, p2, p3⟩ := B5.rules
  obtain ⟨q1, q2, q3⟩ := B7.rules
  have hmin : (if (3 : Int) < 2 then (3 : Int) else 2) = 2 := rfl
  have X6 := Lib.hid x6
  clear hW x6 i2 B5 B7
  have c1 := p1 1
  simp only [List.getElem?_toArray, List.getElem?_cons_zero, List.getElem?_cons_succ] at c1
  have hg1 : w.heap.size ≤ g + 1 := by omega
  go_region_held3 (fun w' => w'.cell? ⟨g, 1, none⟩ = some (.int .i64 3)) (first | go_keep) ((first | (go_at_call 49; refine (CF.out _).mono ?_; rintro e w3 ⟨rfl, x3⟩; have i3 : IsExt w6 w3 := ⟨(is_ext w6 _).trans x3⟩; clear x3; obtain ⟨p1, p2, p3⟩ := (E5.out.ext i3.out).rules; obtain ⟨q1, q2, q3⟩ := (E7.out.ext i3.out).rules)))
  have X7 : Hid (Ext w ((w3.setCell { block := g + 1, off := 0 } (Value.bool true)).setCell { block := g + 1, off := 1 } (Value.int IntKind.i64 2))) := Lib.hid (((X6.out.trans i3.out).setNew (p := ⟨g + 1, 0, none⟩) hg1 _).setNew (p := ⟨g + 1, 1, none⟩) hg1 _)
  generalize (w3.setCell { block := g + 1, off := 0 } (Value.bool true)).setCell { block := g + 1, off := 1 } (Value.int IntKind.i64 2) = w7 at *
  clear p1 p2 p3 q1 q2 q3 CF E5 E7 i3 i6 c1
  go_wp2_with fail
  rw [Exit.noGoto_ret]
  go_ret
  exact ⟨rfl, X7.out⟩
end
end Go.Proofs.YtnhijjcplnomgaaGreat.World
namespace Go.Proofs.YtnhijjcplnomgaaGreat.World
open Go.RowKit Go.Proofs.YtnhijjcplnomgaaGreat.Plain
set_option linter.unusedVariables false
namespace MS
section
variable {S S' : MS}
theorem Sim.isFrame (h : Sim S S') {k : Int} (gk : ∀ q, S'.get k q = S.get k q) (gm : ∀ q, S'.get (S.get k 3).n q = S.get (S.get k 3).n q) (gb : ∀ q, S'.get (S.get k 5).n q = S.get (S.get k 5).n q) : S'.isFrame k = S.isFrame k := by
  unfold MS.isFrame MS.numB
  rw [gk, gk, gk, gk, gk, h.isRoom, h.isRoom, h.isMethod gm, h.isBlock gb]
theorem isFrame_room {k : Int} (h : S.isFrame k = true) : S.isRoom (objV k) = true := by
  unfold MS.isFrame at h
  simp only [Bool.and_eq_true] at h
  exact h.2.1
theorem may_num (S : MS) {n : Int} (h : -1000 ≤ n ∧ n ≤ 5000) : S.may (num n) = true := fits_small h
/-! ### a new block -/
def block0 (S : MS) : MS := S.add (newT 13 1 4 (S.last + 1))
structure Own4 (S : MS) (id : Int) (f : Nat → PV) : Prop where
  std : S.Std
  lo : 23 ≤ id
  fmt : S.fmt id = 1
  size : S.size id = 4
  get : ∀ l : Nat, l < 4 → S.get id l = f l
theorem Own4.field {id : Int} {f : Nat → PV} (h : Own4 S id f) {l : Nat} (hl : l < 4) : S.isField id l = true := by
  unfold MS.isField
  rw [fmt_has (by rw [h.fmt]; decide), h.fmt, h.size]
  have : decide (0 ≤ (l : Int) ∧ (l : Int) < 4) = true := decide_eq_true (by omega)
  rw [this]; rfl
theorem Own4.set {id : Int} {f : Nat → PV} (h : Own4 S id f) {l : Nat} (hl : l < 4) {v : PV} (hv : S.may v = true) :
    S.setOK id l v = true ∧ Own4 (S.set id l v) id (fun k => if k = l then v else f k) ∧ Sim S (S.set id l v) ∧ ∀ k q, k ≠ id → (S.set id l v).get k q = S.get k q := by
  have hf := h.field hl
  have G := get_put (v := v) h.std.wf hf
  have hc : S.isClass id = false := by
    unfold MS.isClass
    rw [h.size, show decide ((5 : Int) ≤ 4) = false from rfl]
    simp
  have ok := setOK_of hf hv (.inr hc)
  have e := set_put ok
  refine ⟨ok, ?_, e ▸ sim_put h.std.wf hf, fun k q hk => by rw [e, G, if_neg (fun c => hk c.1)]⟩
  rw [e]
  obtain ⟨h1, h2, _⟩ := field_lt h.std.wf hf
  refine ⟨h.std.put h.lo hf hv, h.lo, by rw [fmt_put ⟨h1, h2⟩]; exact h.fmt, by rw [size_put ⟨h1, h2⟩]; exact h.size, fun k hk => ?_⟩
  rw [G]
  by_cases e2 : k = l
  · rw [if_pos ⟨rfl, by omega⟩, if_pos e2]
  · rw [if_neg (by omega), if_neg e2]; exact h.get k hk
theorem Std.block0 (h : S.Std) (hl : S.last < 3000) : S.makeOK 13 0 = true ∧ S.make 13 0 = S.block0 ∧ S.makeId 13 0 = S.L.length ∧ Own4 S.block0 S.L.length (fun _ => nilV) := by
  obtain ⟨c, n, f⟩ := h.cls 13 (by omega) (by omega)
  have c : S.isClass 13 = true := c
  have n : S.madeN 13 = 4 := n
  have f : S.madeF 13 = 1 := f
  have ok : S.makeOK 13 0 = true := by
    unfold MS.makeOK
    rw [f, n, if_neg (by decide), decide_eq_true hl, c]; rfl
  have hz : S.makeSz 13 0 = 4 := by unfold MS.makeSz; rw [f, n]; rfl
  have e : S.make 13 0 = S.block0 := by unfold MS.make MS.block0; rw [if_pos ok, f, hz]; rfl
  have hw := make_wf h.wf ok
  rw [f, hz] at hw
  have hs : S.block0.Std := h.add hw
  have lo := h.wf.lo
  have hh : S.block0.has S.L.length = true := has_add_new h.wf
  have ht : S.block0.t S.L.length = newT 13 1 4 (S.last + 1) := t_new
  refine ⟨ok, e, by unfold MS.makeId; rw [if_pos ok], hs, by omega, ?_, ?_, fun l hl => ?_⟩
  · unfold MS.fmt; rw [hh, if_pos rfl, ht]; rfl
  · unfold MS.size; rw [hh, if_pos rfl, ht]; rfl
  · have := get_new (x := newT 13 1 4 (S.last + 1)) h.wf l (show (1 : Int) ≠ 3 by decide) (by show 0 ≤ (l : Int) ∧ (l : Int) < 4; omega) rfl
    refine Eq.trans this ?_
    show vAt (List.replicate 4 nilV) _ = nilV
    rw [Int.toNat_natCast]
    exact vAt_rep 4 l nilV hl
end
end MS
end Go.Proofs.YtnhijjcplnomgaaGreat.World
namespace Go.Proofs.YtnhijjcplnomgaaGreat.World
open Go.RowKit Go.Proofs.YtnhijjcplnomgaaGreat.Plain
set_option linter.unusedVariables false
attribute [local go_sem ↓] Go.wp_at_zero Go.wp_at_succ
namespace MS
def clV (id a t p : Int) (j : Nat) : PV := if j = 0 then objV id else if j = 1 then num a else if j = 2 then num t else num p
/-- a new block, j of its fields set -/
def clS (S : MS) (f : Nat → PV) : Nat → MS
  | 0 => S.block0
  | j + 1 => (clS S f j).set S.L.length j (f j)
theorem clS_ok {S : MS} (h : S.Std) (hl : S.last < 3000) (f : Nat → PV) (hf : ∀ j, j < 4 → S.block0.may (f j) = true) : ∀ j, j ≤ 4 →
    Own4 (S.clS f j) S.L.length (fun k => if k < j then f k else nilV) ∧ Sim S.block0 (S.clS f j) ∧ (∀ k q : Int, k ≠ S.L.length → (S.clS f j).get k q = S.get k q) ∧ (j < 4 → (S.clS f j).setOK S.L.length j (f j) = true) := by
  intro j
  induction j with
  | zero =>
    intro _
    obtain ⟨_, _, _, o0⟩ := h.block0 hl
    refine ⟨?_, Sim.refl _, fun k q hk => get_add h.wf hk q, fun _ => (o0.set (l := 0) (by omega) (hf 0 (by omega))).1⟩
    have e : (fun k => if k < 0 then f k else nilV) = (fun _ : Nat => nilV) := by funext k; rw [if_neg (by omega)]
    rw [e]; exact o0
  | succ j ih =>
    intro hj
    obtain ⟨o, m, g, _⟩ := ih (by omega)
    have hv : ∀ q, q < 4 → (S.clS f j).may (f q) = true := fun q hq => by rw [m.may]; exact hf q hq
    obtain ⟨_, o2, m2, g2⟩ := o.set (l := j) (by omega) (hv j (by omega))
    have e : (fun k => if k = j then f j else if k < j then f k else nilV) = (fun k : Nat => if k < j + 1 then f k else nilV) := by
      funext k
      by_cases h1 : k = j
      · subst h1; rw [if_pos rfl, if_pos (by omega)]
      · by_cases h2 : k < j
        · rw [if_neg h1, if_pos h2, if_pos (by omega)]
        · rw [if_neg h1, if_neg h2, if_neg (by omega)]
    rw [e] at o2
    refine ⟨o2, m.trans m2, fun k q hk => (g2 k q hk).trans (g k q hk), fun h4 => ?_⟩
    have hv2 : (S.clS f (j + 1)).may (f (j + 1)) = true := by
      show ((S.clS f j).set S.L.length j (f j)).may _ = true
      rw [m2.may]; exact hv _ h4
    exact (o2.set (l := j + 1) h4 hv2).1
theorem clS_phase {S : MS} (f : Nat → PV) : ∀ j, (S.clS f j).phase = S.phase
  | 0 => rfl
  | j + 1 => by
    show ((S.clS f j).set S.L.length j (f j)).phase = _
    have : ∀ (T : MS) (i j : Int) (v : PV), (T.set i j v).phase = T.phase := fun T i j v => by unfold MS.set; split <;> rfl
    rw [this]; exact clS_phase f j
end MS
theorem Mov.of_keep {w w' : World} {F : Nat → Prop} (k : Keep F w w') : Mov F F w w' := ⟨k, fun _ h => .inl h⟩
section
variable {w w' w2 : World} {F F' F2 : Nat → Prop} {m : Nat} {S S' : MS} {X : MX}
set_option maxRecDepth 100000 in
set_option maxHeartbeats 2000000 in
theorem sclosure (h : M w F m S) (st : S.Std) (hl : S.last < 3000) {id a t p : Int} (hid : S.isFrame id = true) (hp : S.get id 1 = num p) (hp2 : 0 ≤ p ∧ p ≤ 4000) (ha : 0 ≤ a ∧ a ≤ t ∧ t ≤ 8) :
    Calls Tryz.prog 50 #[.pointer (some ⟨m, 0, none⟩), .int .i64 id, .int .i64 a, .int .i64 t] w fun e w' => e = .returned (.tuple #[.agg #[.bool true, .int .i64 S.L.length], .bool true]) ∧ Goes F m (S.clS (MS.clV id a t (p + 1)) 4) w w' := by
  obtain ⟨bt, R⟩ := h.rd
  have C0 := Lib.hid R.c0
  have LT := Lib.hid R.lt
  have CS := Lib.hid (fun W k => tspecial (w := W) k (.pointer (some ⟨bt, 0, none⟩)))
  obtain ⟨c1, c2, c3⟩ := st.cls 13 (by omega) (by omega)
  have c2 : S.madeN 13 = 4 := c2
  have c3 : S.madeF 13 = 1 := c3
  have CM := Lib.hid (fun W [x : IsExt w W] => mmade (h.ext x.out) 13)
  rw [c2, c3] at CM
  have ph : S.phase ≠ 1 := by rw [st.ph]; decide
  obtain ⟨bo, be, bi, _⟩ := st.block0 hl
  have CK := Lib.hid (fun W [x : IsExt w W] => mmake (h.ext x.out) ph 13 0)
  rw [bo, be, bi] at CK
  have hlt := MS.has_lt (MS.isFrame_has hid)
  have hmay : ∀ j, j < 4 → S.block0.may (MS.clV id a t (p + 1) j) = true := fun j hj => by
    unfold MS.clV
    split
    · exact MS.has_add_old st.wf (MS.isFrame_has hid)
    · split
      · exact MS.fits_small (n := a) (by omega)
      · split
        · exact MS.fits_small (n := t) (by omega)
        · exact MS.fits_small (n := p + 1) (by omega)
  have OKS := Lib.hid (MS.clS_ok st hl (MS.clV id a t (p + 1)) hmay)
  have gp : S.block0.get id 1 = num p := (MS.get_add st.wf (by omega) 1).trans hp
  have HG := Lib.hid gp
  have HF := Lib.hid h.lt
  have hlen := h.wf.len
  have hlast := h.wf.last
  have PH : Hid (∀ j, (S.clS (MS.clV id a t (p + 1)) j).phase ≠ 1) := Lib.hid (fun j => by rw [MS.clS_phase]; exact ph)
  obtain ⟨a0, a1, a2⟩ := ha
  obtain ⟨p0, p1⟩ := hp2
  have d1 : decide (8 < a) = false := decide_eq_false (by omega)
  have d2 : decide (8 < t) = false := decide_eq_false (by omega)
  have d3 : decide (t < a) = false := decide_eq_false (by omega)
  have l0 := R.lt
  have k0 := R.c0
  clear h st hl hid hp hmay R c1 c2 c3 ph bo be bi gp hlt
  have e0 : S.clS (MS.clV id a t (p + 1)) 0 = S.block0 := rfl
  have ES : Hid (∀ j : Nat, (S.clS (MS.clV id a t (p + 1)) j).set S.L.length j (MS.clV id a t (p + 1) j) = S.clS (MS.clV id a t (p + 1)) (j + 1)) := Lib.hid (fun j => rfl)
  generalize hcl : S.clS (MS.clV id a t (p + 1)) = cl at *
  generalize S.L.length = n at *
  go_enter Tryz.func50, Tryz.ntmps50
  go_wp2_with (go_at_call 192; refine (CS.out _ _).mono ?_; rintro e w1 ⟨rfl, x1⟩)
  have B8 := (Blk.new w 40 #[.bool false, .int .i64 0]).ext x1
  have i1 : IsExt w w1 := ⟨(is_ext w _).trans x1⟩
  clear x1 CS k0
  refine (CM.out w1).mono ?_
  rintro e w2 ⟨rfl, x2⟩
  replace B8 := B8.ext x2
  have i2 : IsExt w w2 := ⟨i1.out.trans x2⟩
  clear x2 CM i1
  go_wp2_with fail
  refine (CK.out w2).mono ?_
  rintro e w3 ⟨rfl, gg⟩
  obtain ⟨F1, m3, v3⟩ := gg
  have nF8 : ¬ F w.heap.size := fun hf => by have := HF.out _ hf; omega
  obtain ⟨b8, nF1⟩ := v3.blk B8 nF8
  have V3 := Lib.hid ((Mov.of_ext i2.out).trans v3)
  have CP := Lib.hid (fun W [x : IsExt w3 W] => mget (m3.ext x.out) id 1)
  rw [HG.out] at CP
  unfold val num at CP
  have i3 : IsExt w3 w3 := ⟨Ext.refl _⟩
  have lw : w.heap.size < w3.heap.size := b8.lt
  clear v3 B8 CK HG i2 c2 c3
  go_wp2_with fail
  refine (CP.out _).mono ?_
  rintro e w4 ⟨rfl, x4⟩
  have B8 := Lib.hid (b8.ext x4)
  have M4 := Lib.hid (m3.ext x4)
  have V4 := Lib.hid (V3.out.ext x4)
  have lw4 : w.heap.size < w4.heap.size := B8.out.lt
  clear x4 CP i3 b8 m3 V3
  go_wp2_with fail
  refine wp_name (fun w5 hW => ?_)
  have x5 : Ext w4 w5 := by rw [hW]; exact is_ext _ _
  have BS : Hid (Blk w5 w4.heap.size 40 #[.bool true, .int .i64 id, .bool false, .int .i64 a, .bool false, .int .i64 t, .bool false, .int .i64 (p + 1)]) := Lib.hid (by rw [hW]; exact Blk.new _ _ _)
  replace B8 := Lib.hid (B8.out.ext x5)
  have M5 := Lib.hid (M4.out.ext x5)
  have V5 := Lib.hid (V4.out.ext x5)
  have nS1 : ¬ F1 w4.heap.size := fun hf => by have := M4.out.lt _ hf; omega
  have NS := Lib.hid nS1
  have N8 := Lib.hid nF1
  clear hW x5 M4 V4 nS1 nF1 nF8
  generalize w4.heap.size = gs at *
  generalize hg8 : w.heap.size = g8 at *
  go_loopw [69] (fun jv wr => ∃ j : Nat, j ≤ 4 ∧ jv = .int .i64 j ∧ M wr F1 m (cl j) ∧ Keep F1 w5 wr) (fun jv _ => 4 - (intOf jv).toNat)
  case atStart => exact ⟨0, by omega, rfl, by rw [e0]; exact M5.out, Keep.refl _ _⟩
  case round =>
    obtain ⟨j, hj, rfl, mj, kj⟩ := hrel
    have bs := BS.out.keep kj NS.out
    have MJ := Lib.hid mj
    have KJ := Lib.hid kj
    by_cases hlt : j < 4
    · have ok := (OKS.out j (by omega)).2.2.2 hlt
      have hph := PH.out j
      have CW := Lib.hid (fun W [x : IsExt wr W] => mset (mj.ext x.out) hph n j (MS.clV id a t (p + 1) j))
      rw [ok] at CW
      have es := ES.out j
      rw [es] at CW
      obtain ⟨q1, q2, q3⟩ := bs.rules
      have lS := bs.lt
      clear mj kj ok es hph
      rcases (show j = 0 ∨ j = 1 ∨ j = 2 ∨ j = 3 by omega) with rfl | rfl | rfl | rfl
      all_goals
        have v1 := q1 0
        unfold MS.clV val num objV at CW
        go_wp2_with fail
        refine (CW.out _).mono ?_
        rintro e w6 ⟨rfl, m6, k6⟩
        have M6 := Lib.hid m6
        have K6 := Lib.hid ((KJ.out.ext ((Ext.refl wr).alloc _)).trans k6)
        clear m6 k6 CW MJ KJ bs q1 q2 q3 v1
        go_wp2_with fail
        go_roundw
        case rel => exact ⟨_, by omega, by go_num, M6.out, K6.out⟩
        case measure => simp [intOf]
    · obtain rfl : j = 4 := by omega
      obtain ⟨r1, r2, r3⟩ := (B8.out.keep kj N8.out).rules
      clear mj kj bs BS
      go_wp2_with fail
      have V := V5.out.trans (Mov.of_keep KJ.out)
      refine bodyPost_ret (v := .tuple #[.agg #[.bool true, .int .i64 n], .bool true]) (by simp [results, Tryz.results50, go_sem, r1]) rfl ⟨rfl, F1, ?_, ?_⟩
      · exact MJ.out.far (((Keep.refl (· = g8) wr).setCell (p := ⟨g8, 0, none⟩) rfl _).setCell (p := ⟨g8, 1, none⟩) rfl _) (fun j e hf => N8.out (e ▸ hf))
      · exact ⟨(V.keep.setNew (p := ⟨g8, 0, none⟩) (show w.heap.size ≤ g8 by omega) _).setNew (p := ⟨g8, 1, none⟩) (show w.heap.size ≤ g8 by omega) _, V.new⟩
set_option maxRecDepth 100000 in
set_option maxHeartbeats 2000000 in
theorem sclosure_no (h : M w F m S) (st : S.Std) (id : Int) {a t : Int} (ha : 0 ≤ a ∧ a ≤ 100 ∧ 0 ≤ t ∧ t ≤ 100) (hn : ¬ (a ≤ t ∧ t ≤ 8)) :
    Calls Tryz.prog 50 #[.pointer (some ⟨m, 0, none⟩), .int .i64 id, .int .i64 a, .int .i64 t] w fun e w' => e = .returned (.tuple #[.agg #[.bool false, .int .i64 0], .bool false]) ∧ Ext w w' := by
  obtain ⟨bt, R⟩ := h.rd
  have CS := Lib.hid (fun W k => tspecial (w := W) k (.pointer (some ⟨bt, 0, none⟩)))
  obtain ⟨c1, c2, c3⟩ := st.cls 13 (by omega) (by omega)
  have c2 : S.madeN 13 = 4 := c2
  have c3 : S.madeF 13 = 1 := c3
  have CM := Lib.hid (fun W [x : IsExt w W] => mmade (h.ext x.out) 13)
  rw [c2, c3] at CM
  obtain ⟨a0, a1, t0, t1⟩ := ha
  have l0 := R.lt
  have k0 := R.c0
  clear h st R c1 c2 c3
  rcases (show 8 < a ∨ (¬ 8 < a ∧ 8 < t) ∨ (¬ 8 < a ∧ ¬ 8 < t ∧ t < a) by omega) with d1 | ⟨d1, d2⟩ | ⟨d1, d2, d3⟩
  all_goals
    clear hn
    go_enter Tryz.func50, Tryz.ntmps50
    go_wp2_with (go_at_call 192; refine (CS.out _ _).mono ?_; rintro e w1 ⟨rfl, x1⟩)
    have B8 := (Blk.new w 40 #[.bool false, .int .i64 0]).ext x1
    have i1 : IsExt w w1 := ⟨(is_ext w _).trans x1⟩
    clear x1 CS k0
    refine (CM.out w1).mono ?_
    rintro e w2 ⟨rfl, x2⟩
    replace B8 := B8.ext x2
    have X2 := Lib.hid (i1.out.trans x2)
    obtain ⟨r1, r2, r3⟩ := B8.rules
    clear x2 CM i1 B8
    go_wp2_with fail
    refine bodyPost_ret (v := .tuple #[.agg #[.bool false, .int .i64 0], .bool false]) (by simp [results, Tryz.results50, go_sem, r1]) rfl ⟨rfl, ?_⟩
    exact (X2.out.setNew (p := ⟨w.heap.size, 0, none⟩) (Nat.le_refl _) _).setNew (p := ⟨w.heap.size, 1, none⟩) (Nat.le_refl _) _
end
end Go.Proofs.YtnhijjcplnomgaaGreat.World
namespace Go.Proofs.YtnhijjcplnomgaaGreat.World
open Go.RowKit Go.Proofs.YtnhijjcplnomgaaGreat.Plain
set_option linter.unusedVariables false
attribute [local go_sem ↓] Go.wp_at_zero Go.wp_at_succ
section
variable {w w' w2 : World} {F F' F2 : Nat → Prop} {m : Nat} {S S' : MS} {X : MX}
set_option maxRecDepth 100000 in
set_option maxHeartbeats 2000000 in
theorem slist (h : M w F m S) (hp : S.phase ≠ 1) (id at_ : Int) (k : Nat) (hk : k ≤ 16) (hat : 0 ≤ at_ ∧ at_ ≤ 100000) (L : Nat → MS) (mo : S.makeOK 7 k = true) (mi : S.makeId 7 k = at_) (m0 : S.make 7 k = L 0) (sz : (L 0).size at_ = k)
    (hr : ∀ i, i < k → (L i).phase ≠ 1 ∧ (L i).popOK id = true ∧ ((L i).pop id).phase ≠ 1 ∧ ((L i).pop id).setOK at_ ((k : Int) - 1 - (i : Int)) ((L i).get id (6 + (L i).sp id - 1)) = true ∧ ((L i).pop id).set at_ ((k : Int) - 1 - (i : Int)) ((L i).get id (6 + (L i).sp id - 1)) = L (i + 1)) :
    Calls Tryz.prog 51 #[.pointer (some ⟨m, 0, none⟩), .int .i64 id, .int .i64 k] w fun e w' => e = .returned (.tuple #[.agg #[.bool true, .int .i64 at_], .bool true]) ∧ Goes F m (L k) w w' := by
  obtain ⟨bt, R⟩ := h.rd
  have CS := Lib.hid (fun W k => tspecial (w := W) k (.pointer (some ⟨bt, 0, none⟩)))
  have CK := Lib.hid (fun W [x : IsExt w W] => mmake (h.ext x.out) hp 7 k)
  rw [mo, mi, m0] at CK
  have HF := Lib.hid h.lt
  have HR := Lib.hid hr
  obtain ⟨t1, t2⟩ := hat
  have d1 : decide ((16 : Int) < (k : Int)) = false := decide_eq_false (by omega)
  have l0 := R.lt
  have k0 := R.c0
  clear h hp mo mi m0 R hr
  go_enter Tryz.func51, Tryz.ntmps51
  go_wp2_with (go_at_call 192; refine (CS.out _ _).mono ?_; rintro e w1 ⟨rfl, x1⟩)
  have B6 := (Blk.new w 40 #[.bool false, .int .i64 0]).ext x1
  have i1 : IsExt w w1 := ⟨(is_ext w _).trans x1⟩
  clear x1 CS k0
  refine (CK.out w1).mono ?_
  rintro e w2 ⟨rfl, gg⟩
  obtain ⟨F1, m2, v2⟩ := gg
  have nF6 : ¬ F w.heap.size := fun hf => by have := HF.out _ hf; omega
  obtain ⟨b6, nF1⟩ := v2.blk B6 nF6
  have V2 := Lib.hid ((Mov.of_ext i1.out).trans v2)
  obtain ⟨bt2, R2⟩ := m2.rd
  have CZ := Lib.hid (fun W [x : IsExt w2 W] => R2.size W at_)
  rw [sz] at CZ
  have l2 := R2.lt
  have k2 := R2.c0
  have M2 := Lib.hid m2
  have BB := Lib.hid b6
  have N6 := Lib.hid nF1
  have i2 : IsExt w2 w2 := ⟨Ext.refl _⟩
  clear v2 B6 CK i1 m2 R2 b6 nF6 nF1 sz
  go_wp2_with (go_at_call 191; refine (CZ.out _).mono ?_; rintro e w3 ⟨rfl, x3⟩; have i3 : IsExt w2 w3 := ⟨i2.out.trans x3⟩; clear x3)
  have M3 := Lib.hid (M2.out.ext i3.out)
  have B3 := Lib.hid (BB.out.ext i3.out)
  have V3 := Lib.hid (V2.out.ext i3.out)
  clear M2 BB V2 k2 CZ i2 i3
  generalize hg6 : w.heap.size = g6 at *
  go_loopw [39] (fun jv wr => ∃ j : Nat, j ≤ k ∧ jv = .int .i64 j ∧ M wr F1 m (L j) ∧ Keep F1 w3 wr) (fun jv _ => k - (intOf jv).toNat)
  case atStart => exact ⟨0, by omega, rfl, M3.out, Keep.refl _ _⟩
  case round =>
    obtain ⟨j, hj, rfl, mj, kj⟩ := hrel
    have MJ := Lib.hid mj
    have KJ := Lib.hid kj
    by_cases hlt : j < k
    · obtain ⟨p1, p2, p3, p4, p5⟩ := HR.out j hlt
      have jI : (j : Int) < (k : Int) := by omega
      have CP := Lib.hid (fun W [x : IsExt wr W] => fpop (mj.ext x.out) p1 id p2)
      have P3 := Lib.hid p3
      have P4 := Lib.hid p4
      have P5 := Lib.hid p5
      have ir : IsExt wr wr := ⟨Ext.refl _⟩
      clear mj kj p1 p2 p3 p4 p5
      obtain ⟨Lj1, hLj⟩ : ∃ q, L (j + 1) = q := ⟨_, rfl⟩
      rw [hLj] at P5
      have LJ := Lib.hid hLj
      clear hLj
      generalize (L j).get id (6 + (L j).sp id - 1) = v at *
      generalize (L j).pop id = P at *
      obtain ⟨vo, vn⟩ := v
      unfold val at CP
      go_wp2_with fail
      refine (CP.out _).mono ?_
      rintro e w4 ⟨rfl, m4, k4⟩
      have CW := Lib.hid (fun W [x : IsExt w4 W] => mset (m4.ext x.out) P3.out at_ ((k : Int) - 1 - (j : Int)) ⟨vo, vn⟩)
      rw [P4.out, P5.out] at CW
      unfold val at CW
      have K4 := Lib.hid (KJ.out.trans k4)
      clear m4 k4 CP MJ KJ ir P3 P4 P5
      go_upto_region 11 with (fail)
      refine wp_name (fun w5 hW => ?_)
      have i5 : IsExt w4 w5 := ⟨by rw [hW]; exact is_ext _ _⟩
      obtain ⟨q1, q2, q3⟩ := (show Blk w5 w4.heap.size 40 #[.bool vo, .int .i64 vn] from by rw [hW]; exact Blk.new _ _ _).rules
      clear hW
      go_wp2_with fail
      refine (CW.out _).mono ?_
      rintro e w6 ⟨rfl, m6, k6⟩
      have M6 := Lib.hid m6
      have K6 := Lib.hid ((K4.out.ext i5.out).trans k6)
      clear m6 k6 CW K4 q1 q2 q3 i5
      go_wp2_with fail
      go_roundw
      case rel => exact ⟨j + 1, by omega, by go_num, by rw [LJ.out]; exact M6.out, K6.out⟩
      case measure => simp [intOf]; omega
    · obtain rfl : j = k := by omega
      obtain ⟨r1, r2, r3⟩ := (B3.out.keep kj N6.out).rules
      clear mj kj B3
      go_wp2_with fail
      have V := V3.out.trans (Mov.of_keep KJ.out)
      refine bodyPost_ret (v := .tuple #[.agg #[.bool true, .int .i64 at_], .bool true]) (by simp [results, Tryz.results51, go_sem, r1]) rfl ⟨rfl, F1, ?_, ?_⟩
      · exact MJ.out.far (((Keep.refl (· = g6) wr).setCell (p := ⟨g6, 0, none⟩) rfl _).setCell (p := ⟨g6, 1, none⟩) rfl _) (fun j e hf => N6.out (e ▸ hf))
      · exact ⟨(V.keep.setNew (p := ⟨g6, 0, none⟩) (show w.heap.size ≤ g6 by omega) _).setNew (p := ⟨g6, 1, none⟩) (show w.heap.size ≤ g6 by omega) _, V.new⟩
set_option maxRecDepth 100000 in
set_option maxHeartbeats 2000000 in
/-- an array of what is popped is pushed -/
theorem sdo21 (h : M w F m S) (hp : S.phase ≠ 1) (id at_ : Int) (hid : S.isFrame id = true) (k : Nat) (hk : k ≤ 16) (hat : 0 ≤ at_ ∧ at_ ≤ 100000) (L : Nat → MS) (mo : S.makeOK 7 k = true) (mi : S.makeId 7 k = at_) (m0 : S.make 7 k = L 0) (sz : (L 0).size at_ = k)
    (hr : ∀ i, i < k → (L i).phase ≠ 1 ∧ (L i).popOK id = true ∧ ((L i).pop id).phase ≠ 1 ∧ ((L i).pop id).setOK at_ ((k : Int) - 1 - (i : Int)) ((L i).get id (6 + (L i).sp id - 1)) = true ∧ ((L i).pop id).set at_ ((k : Int) - 1 - (i : Int)) ((L i).get id (6 + (L i).sp id - 1)) = L (i + 1)) (ph : (L k).phase ≠ 1) :
    Calls Tryz.prog 23 #[.pointer (some ⟨m, 0, none⟩), .int .i64 id, .agg #[.int .i64 21, .int .i64 k, .int .i64 0]] w fun e w' => e = .returned (.bool ((L k).pushOK id (objV at_))) ∧ Goes F m ((L k).push id (objV at_)) w w' := by
  have C1 := Lib.hid (fun W [x : IsExt w W] => fis (h.ext x.out) id)
  have C2 := Lib.hid (fun W [x : IsExt w W] => mget (h.ext x.out) id 4)
  have C3 := Lib.hid (fun W [x : IsExt w W] => slist (h.ext x.out) hp id at_ k hk hat L mo mi m0 sz hr)
  have PH := ph
  have HF := Lib.hid h.lt
  rw [hid] at C1
  clear h hp hid mo mi m0 sz hr ph
  unfold val at *
  generalize L k = C at *
  generalize at_ = n at *
  generalize S.get id 4 = me at *
  obtain ⟨mo, mn⟩ := me
  go_enter Tryz.func23, Tryz.ntmps23
  go_wp2_with fail
  go_step3
  go_wp2_with fail
  refine (C1.out _).mono ?_
  rintro e w1 ⟨rfl, x1⟩
  have B5 := ((Blk.new w 50 #[.int .i64 21, .int .i64 k, .int .i64 0]).alloc (.cells #[.bool false, .int .i64 0] 40)).ext x1
  have B7 := (Blk.at_ (w := w.alloc (.cells #[.int .i64 21, .int .i64 k, .int .i64 0] 50)) (g := w.heap.size + 1) 40 #[.bool false, .int .i64 0] (by simp)).ext x1
  have i1 : IsExt w w1 := ⟨(((Ext.refl w).alloc _).alloc _).trans x1⟩
  clear x1 C1
  go_wp2_with fail
  refine (C2.out _).mono ?_
  rintro e w2 ⟨rfl, x2⟩
  replace B5 := (B5.ext x2).alloc (.cells #[.bool mo, .int .i64 mn] 40)
  replace B7 := (B7.ext x2).alloc (.cells #[.bool mo, .int .i64 mn] 40)
  have i2 : IsExt w w2 := ⟨i1.out.trans x2⟩
  obtain ⟨p1, p2, p3⟩ := B5.rules
  clear x2 C2 i1
  generalize hg5 : w.heap.size = g at *
  go_wp2_with fail
  refine (C3.out _).mono ?_
  rintro e w4 ⟨rfl, F4, m4, v4⟩
  obtain ⟨b7, nF⟩ := v4.blk B7 (fun hf => by have := HF.out _ hf; omega)
  have V4 := Lib.hid ((Mov.of_ext (i2.out.alloc _)).trans v4)
  have M4 := Lib.hid m4
  have NF := Lib.hid nF
  obtain ⟨q1, q2, q3⟩ := b7.rules
  have B7' := Lib.hid b7
  clear m4 v4 C3 i2 p1 p2 p3 B5 B7 nF b7
  go_wp2_with fail
  refine calls_name (fun w5 hW => ?_)
  have m5 : M w5 F4 m C := by rw [hW]; exact M4.out.far (((Keep.refl (· = g + 1) w4).setCell (p := ⟨g + 1, 0, none⟩) rfl _).setCell (p := ⟨g + 1, 1, none⟩) rfl _) (fun j e hf => NF.out (e ▸ hf))
  have V5 : Hid (Mov F F4 w w5) := Lib.hid (by rw [hW]; exact ⟨(V4.out.keep.setNew (p := ⟨g + 1, 0, none⟩) (show w.heap.size ≤ g + 1 by omega) _).setNew (p := ⟨g + 1, 1, none⟩) (show w.heap.size ≤ g + 1 by omega) _, V4.out.new⟩)
  have CP := Lib.hid (fpush m5 PH id (objV n))
  unfold val objV at CP
  clear hW m5 M4 V4 q1 q2 q3 B7' NF PH
  refine CP.out.mono ?_
  rintro e w6 ⟨rfl, m6, k6⟩
  have R : Hid (Goes F m (C.push id (objV n)) w w6) := Lib.hid ⟨F4, m6, V5.out.trans (Mov.of_keep k6)⟩
  clear m6 k6 CP V5
  go_wp2_with fail
  rw [Exit.noGoto_ret]
  go_ret
  exact ⟨ret_bool (by simp [objV]), R.out⟩
end
end Go.Proofs.YtnhijjcplnomgaaGreat.World
namespace Go.Proofs.YtnhijjcplnomgaaGreat.World
open Go.RowKit Go.Proofs.YtnhijjcplnomgaaGreat.Plain
set_option linter.unusedVariables false
attribute [local go_sem ↓] Go.wp_at_zero Go.wp_at_succ
def Others (w w' : World) : Prop := ∀ g t cs, t ≠ 34 → t ≠ 62 → Blk w g t cs → Blk w' g t cs
theorem Others.ext {w w' : World} (x : Ext w w') : Others w w' := fun g t cs _ _ h => h.ext x
theorem Others.trans {w w' w2 : World} (a : Others w w') (b : Others w' w2) : Others w w2 := fun g t cs h1 h2 h => b g t cs h1 h2 (a g t cs h1 h2 h)
theorem BAt.others {w w' : World} {lo b : Nat} {W : PW} {x : WV} (h : BAt w lo b W x) (k : Keep (fun j => j = b ∨ x.L.ownBlock = some j) w w') : Others w w' := fun g t cs h1 h2 hb => hb.keep k (fun c => by
  rcases c with c | c
  · subst c; exact hb.ne h.blk h1 rfl
  · obtain ⟨_, cs2, hc⟩ := h.bu.L.block c
    exact hb.ne hc h2 rfl)
set_option maxRecDepth 100000 in
set_option maxHeartbeats 1000000 in
theorem bmethK {w : World} {lo b : Nat} {W : PW} {x : WV} (h : BAt w lo b W x) (hlo : lo ≤ w.heap.size) (a t p : Int) (hn : W.L.length ≤ 90000) (hl : -90000 ≤ W.last ∧ W.last ≤ 90000) :
    Calls Tryz.prog 22 #[.pointer (some ⟨b, 0, none⟩), .int .i64 a, .int .i64 t, .int .i64 p, .slice none 0 0, .slice none 0 0] w fun e w' => e = .returned (.int .i64 (W.L.length + 1 : Nat)) ∧ (∃ x', BAt w' lo b (W.meth a t p) x') ∧ Keep (fun j => j = b ∨ lo ≤ j) w w' ∧ Others w w' := by
  have HN := Lib.hid lnum
  have HO := Lib.hid lobj
  have HP := Lib.hid rput0
  unfold val num at HN
  unfold val objV at HO
  have HH := Lib.hid h
  have l1 := hl.1
  have l2 := hl.2
  clear h hl
  go_enter Tryz.func22, Tryz.ntmps22
  go_wp2_with fail
  refine (HP.out _).mono ?_
  rintro e w1 ⟨rfl, x1⟩
  have h1 := HH.out.ext x1
  have lo1 : lo ≤ w1.heap.size := by have := x1.below.size; omega
  have K1 := Lib.hid (Keep.of_ext x1 (fun j => j = b ∨ lo ≤ j))
  have O1 := Lib.hid (Others.ext x1)
  have H1' := Lib.hid h1
  clear x1 HP
  have C := Lib.hid (badd h1 lo1 (vF := .slice none 0 0) (F := []) (row_nil _ _ _) (fun k hk => by simp [Value.ownBlock] at hk) 8 3 ByteArray.empty (by omega) (by omega))
  clear h1
  go_wp2_with fail
  refine C.out.mono ?_
  rintro e w2 ⟨rfl, x2, h2, k2⟩
  have lo2 : lo ≤ w2.heap.size := Nat.le_trans lo1 k2.size
  have K2 := Lib.hid (K1.out.trans (k2.mono (fun j hj => hj.imp id (fun e => (HH.out.bu.L.block e).1))))
  have H2 := Lib.hid h2
  have O2 := Lib.hid (O1.out.trans (H1'.out.others k2))
  clear K1 C h2 k2 HH O1 H1'
  generalize hn0 : W.L.length = n at *
  go_wp2_with (first | (go_at_call 15; refine (HN.out _ _).mono ?_; rintro e w3 ⟨rfl, x3⟩; have i3 : IsExt w2 w3 := ⟨(is_ext w2 _).trans x3⟩; clear x3) | (go_at_call 16; refine (HO.out _ _).mono ?_; rintro e w4 ⟨rfl, x4⟩; have i4 : IsExt w2 w4 := ⟨(is_ext w2 _).trans x4⟩; clear x4))
  refine wp_name_calls (fun w5 hW => ?_)
  have x5 : Ext w2 w5 := by rw [hW]; exact is_ext _ _
  have b5 : Blk w5 w4.heap.size 40 (flat 4 2 (cF [num a, num t, num p, objV n])).toArray := by rw [hW]; exact Blk.new _ _ _
  have lo5 : lo ≤ w5.heap.size := Nat.le_trans lo2 x5.below.size
  have e5 : (W.add 8 3 [] ByteArray.empty).L.length = n + 1 := by unfold PW.add; simp [hn0]
  have D := badd (F := [num a, num t, num p, objV n]) (H2.out.ext x5) lo5 (row_flat (n := 4) b5 (by omega)) (typ_blk b5) 11 1 ByteArray.empty (by omega) (by show _ ≤ W.last + 1 ∧ W.last + 1 ≤ _; omega)
  rw [e5] at D
  have DH := Lib.hid D
  have K5 := Lib.hid (K2.out.ext x5)
  have H5 := Lib.hid (H2.out.ext x5)
  have O5 := Lib.hid (O2.out.trans (Others.ext x5))
  clear hW b5 D x5 K2
  refine DH.out.mono ?_
  rintro e w6 ⟨rfl, x6, h6, k6⟩
  have P : Hid ((∃ x', BAt w6 lo b (W.meth a t p) x') ∧ Keep (fun j => j = b ∨ lo ≤ j) w w6 ∧ Others w w6) := Lib.hid ⟨⟨x6, by unfold PW.meth; rw [hn0]; exact h6⟩, K5.out.trans (k6.mono (fun j hj => hj.imp id (fun e => (H2.out.bu.L.block e).1))), O5.out.trans (H5.out.others k6)⟩
  clear h6 k6 K5 DH
  go_wp2_with fail
  go_ret
  exact ⟨ret_int (by omega), P.out⟩
end Go.Proofs.YtnhijjcplnomgaaGreat.World
namespace Go.Proofs.YtnhijjcplnomgaaGreat.World
open Go.RowKit Go.Proofs.YtnhijjcplnomgaaGreat.Plain
set_option linter.unusedVariables false
attribute [local go_sem ↓] Go.wp_at_zero Go.wp_at_succ
def PW.methL (W : PW) (a t p : Int) (l : List PV) : PW := (W.add 8 3 [] ByteArray.empty).add 11 1 ([num a, num t, num p, objV W.L.length] ++ l) ByteArray.empty
set_option maxRecDepth 100000 in
set_option maxHeartbeats 1000000 in
theorem bmethL {w : World} {lo b : Nat} {W : PW} {x : WV} (h : BAt w lo b W x) (hlo : lo ≤ w.heap.size) (a t p : Int) (v : PV) {gl : Nat} (hg : Blk w gl 40 #[.bool v.obj, .int .i64 v.n]) (hn : W.L.length ≤ 90000) (hl : -90000 ≤ W.last ∧ W.last ≤ 90000) :
    Calls Tryz.prog 22 #[.pointer (some ⟨b, 0, none⟩), .int .i64 a, .int .i64 t, .int .i64 p, .slice none 0 0, .slice (some ⟨gl, 0, none⟩) 1 1] w fun e w' => e = .returned (.int .i64 (W.L.length + 1 : Nat)) ∧ (∃ x', BAt w' lo b (W.methL a t p [v]) x') ∧ Keep (fun j => j = b ∨ lo ≤ j) w w' := by
  obtain ⟨vo, vn⟩ := v
  have hg : Blk w gl 40 #[.bool vo, .int .i64 vn] := hg
  have HN := Lib.hid lnum
  have HO := Lib.hid lobj
  have HP := Lib.hid rput0
  unfold val num at HN
  unfold val objV at HO
  have HH := Lib.hid h
  have BG := Lib.hid hg
  have l1 := hl.1
  have l2 := hl.2
  clear h hl hg
  go_enter Tryz.func22, Tryz.ntmps22
  go_wp2_with fail
  refine (HP.out _).mono ?_
  rintro e w1 ⟨rfl, x1⟩
  have h1 := HH.out.ext x1
  have lo1 : lo ≤ w1.heap.size := by have := x1.below.size; omega
  have K1 := Lib.hid (Keep.of_ext x1 (fun j => j = b ∨ lo ≤ j))
  have O1 := Lib.hid (Others.ext x1)
  have H1' := Lib.hid h1
  clear x1 HP
  have C := Lib.hid (badd h1 lo1 (vF := .slice none 0 0) (F := []) (row_nil _ _ _) (fun k hk => by simp [Value.ownBlock] at hk) 8 3 ByteArray.empty (by omega) (by omega))
  clear h1
  go_wp2_with fail
  refine C.out.mono ?_
  rintro e w2 ⟨rfl, x2, h2, k2⟩
  have lo2 : lo ≤ w2.heap.size := Nat.le_trans lo1 k2.size
  have K2 := Lib.hid (K1.out.trans (k2.mono (fun j hj => hj.imp id (fun e => (HH.out.bu.L.block e).1))))
  have H2 := Lib.hid h2
  have BL := Lib.hid ((O1.out.trans (H1'.out.others k2)) _ _ _ (by decide) (by decide) BG.out)
  clear K1 C h2 k2 HH O1 H1' BG
  generalize hn0 : W.L.length = n at *
  obtain ⟨iV, iV1, iV2, iV3, iV4⟩ := info_parts infoV
  go_wp2_with (first | (go_at_call 15; refine (HN.out _ _).mono ?_; rintro e w3 ⟨rfl, x3⟩; have i3 : IsExt w2 w3 := ⟨(is_ext w2 _).trans x3⟩; clear x3) | (go_at_call 16; refine (HO.out _ _).mono ?_; rintro e w4 ⟨rfl, x4⟩; have i4 : IsExt w2 w4 := ⟨(is_ext w2 _).trans x4⟩; have s4 := i4.out.below.size; clear x4) | (at_builtin; refine wpList_append_lies _ rfl _ _ _ rfl lo 40 iV (.agg #[.bool false, .int .i64 0]) 2 16 Tryz.underlying42 iV1 iV2 iV3 iV4 rfl (by decide) _ 4 (flat 4 2 (cF [num a, num t, num p, objV n])) (by rfl) (own_flat (n := 4) (Blk.new _ _ _) (by omega) (by omega)) ⟨gl, 0, none⟩ 1 1 [.bool vo, .int .i64 vn] (by rfl) (by rfl) (World.news_of_block ((BL.out.ext i4.out).alloc _)) (by simp [Value.oneCell']) (by omega) (by unfold maxLen; omega) (by omega) (by simp; omega) (w4.heap.size + 1) (by simp) ?_; intro gg c9 w5 o5 g5 hat5 hlt5))
  have x5 : Ext w2 w5 := by
    have kp := grow_keep g5
    refine Ext.of_below (Keep.below i4.out.below kp i4.out.below.size (fun i hi e => ?_))
    simp [Value.ownBlock] at e
    omega
  have lo5 : lo ≤ w5.heap.size := Nat.le_trans lo2 x5.below.size
  have e5 : (W.add 8 3 [] ByteArray.empty).L.length = n + 1 := by unfold PW.add; simp [hn0]
  have q5 := own_val (v := ⟨vo, vn⟩) (F := [num a, num t, num p, objV n]) (n := 4) rfl o5
  have D := badd (F := [num a, num t, num p, objV n] ++ [⟨vo, vn⟩]) (H2.out.ext x5) lo5 (by exact q5.row) (own_typ q5) 11 1 ByteArray.empty (by omega) (by show _ ≤ W.last + 1 ∧ W.last + 1 ≤ _; omega)
  rw [e5] at D
  have DH := Lib.hid D
  have K5 := Lib.hid (K2.out.ext x5)
  have H5 := Lib.hid (H2.out.ext x5)
  clear D x5 K2 q5 o5 g5 hat5 hlt5
  go_wp2_with fail
  refine DH.out.mono ?_
  rintro e w6 ⟨rfl, x6, h6, k6⟩
  have P : Hid ((∃ x', BAt w6 lo b (W.methL a t p [⟨vo, vn⟩]) x') ∧ Keep (fun j => j = b ∨ lo ≤ j) w w6) := Lib.hid ⟨⟨x6, by unfold PW.methL; rw [hn0]; exact h6⟩, K5.out.trans (k6.mono (fun j hj => hj.imp id (fun e => (H5.out.bu.L.block e).1)))⟩
  clear h6 k6 K5 DH
  go_wp2_with fail
  go_ret
  exact ⟨ret_int (by omega), P.out⟩
end Go.Proofs.YtnhijjcplnomgaaGreat.World
namespace Go.Proofs.YtnhijjcplnomgaaGreat.World
open Go.RowKit Go.Proofs.YtnhijjcplnomgaaGreat.Plain
set_option linter.unusedVariables false
instance : DecidableEq PV := fun ⟨a, b⟩ ⟨c, d⟩ => if h : a = c ∧ b = d then isTrue (by obtain ⟨rfl, rfl⟩ := h; rfl) else isFalse (fun e => h (by injection e with e1 e2; exact ⟨e1, e2⟩))
def whoV (c : Nat) : PV := if c = 0 then objV 23 else if c = 1 then num 5 else objV 22
def fieldsW (c k : Nat) : PW := ((firstW.add 7 1 (List.replicate k (num 0)) ByteArray.empty).meth 0 0 0).start 25 0 (whoV c) 5
theorem fieldsW_check : ∀ c k : Nat, c < 3 → k < 20 → checkB (fieldsW c k) = true := by
  have h : ∀ c : Fin 3, ∀ k : Fin 20, checkB (fieldsW c k) = true := by decide +kernel
  exact fun c k hc hk => h ⟨c, hc⟩ ⟨k, hk⟩
theorem fieldsW_first (c k i : Nat) (hi : i < 23) : tAt (fieldsW c k).L i = firstT i := by
  have e : firstW.L.length = 23 := rfl
  unfold fieldsW PW.start PW.meth
  rw [tAt_add _ _ _ _ _ _ (by simp only [len_add]; omega), tAt_add _ _ _ _ _ _ (by simp only [len_add]; omega), tAt_add _ _ _ _ _ _ (by simp only [len_add]; omega), tAt_add _ _ _ _ _ _ (by simp only [len_add]; omega), tAt_add _ _ _ _ _ _ (by omega)]
  exact first_at i hi
structure SF (S : MS) (c k : Nat) (f : Nat → PV) (sp : Int) : Prop where
  fr : MS.Fr S 26
  ph : S.phase ≠ 1
  me : S.get 26 4 = whoV c
  meth : S.get 26 3 = objV 25
  blk : S.get 26 5 = objV 0
  sp : S.sp 26 = sp
  h0 : S.has 0 = true
  f23 : S.fmt 23 = 1
  s23 : S.size 23 = k
  g23 : ∀ j : Nat, j < k → S.get 23 j = f j
  f22 : S.fmt 22 = 1
  s22 : S.size 22 = 1
  g22 : S.get 22 0 = num 0
theorem sf0 (c k : Nat) (hc : c < 3) (hk : k < 20) : SF (newS (fieldsW c k) 5) c k (fun _ => num 0) 0 := by
  have s := std_new (fieldsW_check c k hc hk) (fieldsW_first c k) 5
  have h : ∀ c : Fin 3, ∀ k : Fin 20, (newS (fieldsW c k) 5).isFrame 26 = true ∧ (newS (fieldsW c k) 5).get 26 4 = whoV c ∧ (newS (fieldsW c k) 5).get 26 3 = objV 25 ∧ (newS (fieldsW c k) 5).get 26 5 = objV 0 ∧ (newS (fieldsW c k) 5).sp 26 = 0 ∧ (newS (fieldsW c k) 5).fmt 23 = 1 ∧ (newS (fieldsW c k) 5).size 23 = (k.1 : Int) ∧ (∀ j : Fin 20, j.1 < k.1 → (newS (fieldsW c k) 5).get 23 j = num 0) ∧ (newS (fieldsW c k) 5).fmt 22 = 1 ∧ (newS (fieldsW c k) 5).size 22 = 1 ∧ (newS (fieldsW c k) 5).get 22 0 = num 0 := by decide +kernel
  obtain ⟨a1, a2, a3, a4, a5, a6, a7, a8, a9, a10, a11⟩ := h ⟨c, hc⟩ ⟨k, hk⟩
  exact ⟨⟨s.wf, a1, by rw [a3]; decide, by rw [a4]; decide⟩, by rw [s.ph]; decide, a2, a3, a4, a5, s.has0, a6, a7, fun j hj => a8 ⟨j, by omega⟩ hj, a9, a10, a11⟩
theorem SF.other {S S' : MS} {c k : Nat} {f : Nat → PV} {sp sp' : Int} (h : SF S c k f sp) (fr : MS.Fr S' 26) (m : MS.Sim S S') (hsp : S'.sp 26 = sp') (g : ∀ i j, (i ≠ 26 ∨ (j ≠ 2 ∧ j < 6)) → S'.get i j = S.get i j) : SF S' c k f sp' :=
  ⟨fr, by rw [m.phase]; exact h.ph, by rw [g _ _ (.inr (by omega))]; exact h.me, by rw [g _ _ (.inr (by omega))]; exact h.meth, by rw [g _ _ (.inr (by omega))]; exact h.blk, hsp, by rw [m.has]; exact h.h0, by rw [m.fmt]; exact h.f23, by rw [m.size]; exact h.s23, fun j hj => by rw [g _ _ (.inl (by omega))]; exact h.g23 j hj, by rw [m.fmt]; exact h.f22, by rw [m.size]; exact h.s22, by rw [g _ _ (.inl (by omega))]; exact h.g22⟩
theorem SF.push {S : MS} {c k : Nat} {f : Nat → PV} (h : SF S c k f 0) {v : PV} (hv : S.may v = true) : S.pushOK 26 v = true ∧ SF (S.push 26 v) c k f 1 ∧ (S.push 26 v).get 26 6 = v ∧ MS.Sim S (S.push 26 v) := by
  obtain ⟨ok, fr, m, g⟩ := h.fr.push (by rw [h.sp]; omega) hv
  rw [h.sp] at g
  refine ⟨ok, h.other fr m ?_ (fun i j hij => ?_), ?_, m⟩
  · show ((S.push 26 v).get 26 2).n = 1
    rw [g, if_pos ⟨rfl, rfl⟩]; rfl
  · rw [g]
    rcases hij with hi | ⟨h2, h6⟩
    · rw [if_neg (fun q => hi q.1), if_neg (fun q => hi q.1)]
    · rw [if_neg (fun q => h2 q.2), if_neg (fun q => by omega)]
  · rw [g, if_neg (by omega), if_pos ⟨rfl, by omega⟩]
theorem SF.pop {S : MS} {c k : Nat} {f : Nat → PV} (h : SF S c k f 1) : S.popOK 26 = true ∧ SF (S.pop 26) c k f 0 ∧ MS.Sim S (S.pop 26) := by
  obtain ⟨ok, fr, m, g⟩ := h.fr.pop h.h0 (by rw [h.sp]; omega)
  rw [h.sp] at g
  refine ⟨ok, h.other fr m ?_ (fun i j hij => ?_), m⟩
  · show ((S.pop 26).get 26 2).n = 0
    rw [g, if_pos ⟨rfl, rfl⟩]; rfl
  · rw [g]
    rcases hij with hi | ⟨h2, h6⟩
    · rw [if_neg (fun q => hi q.1), if_neg (fun q => hi q.1)]
    · rw [if_neg (fun q => h2 q.2), if_neg (fun q => by omega)]
theorem SF.hasF {S : MS} {c k : Nat} {f : Nat → PV} {sp : Int} (h : SF S c k f sp) (hc : c < 3) (i : Nat) : S.hasF (S.get 26 4) i = (decide (c = 0 ∧ i < k) || decide (c = 2 ∧ i = 0)) := by
  rw [h.me]
  have h23 := MS.fmt_has (S := S) (k := 23) (by rw [h.f23]; decide)
  have h22 := MS.fmt_has (S := S) (k := 22) (by rw [h.f22]; decide)
  unfold MS.hasF whoV
  rcases (show c = 0 ∨ c = 1 ∨ c = 2 by omega) with rfl | rfl | rfl
  · simp [objV, h23, h.f23, h.s23]
  · simp [num]
  · simp [objV, h22, h.f22, h.s22]
    omega
theorem notclass {S : MS} {i : Int} (hf : S.fmt i = 1) (hg : 5 ≤ S.size i → S.get i 4 = num 0) : S.isClass i = false := by
  have hh := MS.fmt_has (S := S) (k := i) (by rw [hf]; decide)
  by_cases h5 : 5 ≤ S.size i
  · have f4 : S.isField i 4 = true := by
      unfold MS.isField
      rw [hh, hf, decide_eq_true (show 0 ≤ (4 : Int) ∧ 4 < S.size i by omega)]; rfl
    have e : S.field i 4 = num 0 := by
      have q := hg h5
      unfold MS.get at q
      rw [if_pos f4] at q; exact q
    unfold MS.isClass
    rw [e]
    have : MS.fmtOK (num 0) = false := by decide
    rw [this]; simp
  · unfold MS.isClass
    rw [decide_eq_false h5]; simp
theorem SF.set {S : MS} {c k : Nat} (h : SF S c k (fun _ => num 0) 0) {i : Nat} (hi : i < k) {v : PV} (hv : S.may v = true) : S.setOK 23 i v = true ∧ SF (S.set 23 i v) c k (fun j => if j = i then v else num 0) 0 ∧ MS.Sim S (S.set 23 i v) := by
  have hh := MS.fmt_has (S := S) (k := 23) (by rw [h.f23]; decide)
  have hf : S.isField 23 i = true := by
    unfold MS.isField
    rw [hh, h.f23, h.s23, decide_eq_true (show 0 ≤ (i : Int) ∧ (i : Int) < (k : Int) by omega)]; rfl
  have nc : S.isClass 23 = false := notclass h.f23 (fun h5 => by
    rw [h.s23] at h5
    have := h.g23 4 (by omega)
    exact this)
  have ok := MS.setOK_of hf hv (.inr nc)
  have e := MS.set_put ok
  have g := MS.get_put (v := v) h.fr.wf hf
  have m := MS.sim_put (v := v) h.fr.wf hf
  refine ⟨ok, ?_, by rw [e]; exact m⟩
  rw [e]
  have go : ∀ a b, a ≠ 23 → (S.put 23 i v).get a b = S.get a b := fun a b ha => by rw [g, if_neg (fun q => ha q.1)]
  have hm : (S.get 26 3).n ≠ 23 := by rw [h.meth]; decide
  have hb : (S.get 26 5).n ≠ 23 := by rw [h.blk]; decide
  refine ⟨⟨MS.put_wf h.fr.wf hf hv, ?_, by rw [go _ _ (by omega)]; exact h.fr.me, by rw [go _ _ (by omega)]; exact h.fr.bl⟩, by rw [m.phase]; exact h.ph, by rw [go _ _ (by omega)]; exact h.me, by rw [go _ _ (by omega)]; exact h.meth, by rw [go _ _ (by omega)]; exact h.blk, ?_, by rw [m.has]; exact h.h0, by rw [m.fmt]; exact h.f23, by rw [m.size]; exact h.s23, fun j hj => ?_, by rw [m.fmt]; exact h.f22, by rw [m.size]; exact h.s22, by rw [go _ _ (by omega)]; exact h.g22⟩
  · exact MS.isFrame_put h.fr.wf hf h.fr.is (.inl hm) (.inl hb) (by first | exact .inl (by omega) | omega)
  · show ((S.put 23 i v).get 26 2).n = 0
    rw [go _ _ (by omega)]; exact h.sp
  · rw [g]
    by_cases hji : j = i
    · subst hji; rw [if_pos ⟨rfl, rfl⟩, if_pos rfl]
    · rw [if_neg (by omega), if_neg hji]; exact h.g23 j hj
theorem SF.has3 {S : MS} {c k : Nat} {f : Nat → PV} {sp : Int} (h : SF S c k f sp) (hc : c < 3) (i : Nat) : S.hasF (whoV c) i = (decide (c = 0 ∧ i < k) || decide (c = 2 ∧ i = 0)) := by
  have q := h.hasF hc i
  rw [h.me] at q; exact q
structure SFR (S : MS) (c k i : Nat) (v : PV) : Prop where
  a1 : S.pushOK 26 v = true
  a2 : S.isFrame 26 = true
  b1 : (S.push 26 v).phase ≠ 1
  b2 : (S.push 26 v).isFrame 26 = true
  b3 : (S.push 26 v).popOK 26 = true
  b4 : (S.push 26 v).sfOK 26 i = decide (c = 0 ∧ i < k)
  c1 : ((S.push 26 v).sf 26 i).phase ≠ 1
  c2 : ((S.push 26 v).sf 26 i).isFrame 26 = true
  c3 : ((S.push 26 v).sf 26 i).pfOK 26 i = (decide (c = 0 ∧ i < k) || decide (c = 2 ∧ i = 0))
  d1 : (((S.push 26 v).sf 26 i).pf 26 i).get 22 0 = num 0
  d2 : c = 0 ∧ i < k → (∀ j : Nat, j < k → (((S.push 26 v).sf 26 i).pf 26 i).get 23 j = if j = i then v else num 0) ∧ (((S.push 26 v).sf 26 i).pf 26 i).get 26 6 = v
theorem sf_all {S : MS} {c k : Nat} (h : SF S c k (fun _ => num 0) 0) (hc : c < 3) (i : Nat) {x : Int} (hx : -128 ≤ x ∧ x ≤ 127) : SFR S c k i (num x) := by
  have hv : ∀ T : MS, T.may (num x) = true := fun T => MS.fits_small (n := x) (by omega)
  obtain ⟨a1, h1, t1, _⟩ := h.push (hv _)
  obtain ⟨b3, h2, _⟩ := h1.pop
  have e0 : (S.push 26 (num x)).get 26 4 = whoV c := h1.me
  have e6 : (S.push 26 (num x)).get 26 (6 + (S.push 26 (num x)).sp 26 - 1) = num x := by rw [h1.sp]; exact t1
  by_cases hin : c = 0 ∧ i < k
  · obtain ⟨rfl, hik⟩ := hin
    obtain ⟨s1, h3, _⟩ := h2.set hik (hv _)
    have w0 : (decide ((0 : Nat) = 0 ∧ i < k)) = true := decide_eq_true ⟨rfl, hik⟩
    have hh : ((S.push 26 (num x)).pop 26).hasF (whoV 0) i = true := by rw [h2.has3 hc i, w0]; rfl
    have hn : decide (0 ≤ (whoV 0).n ∧ (whoV 0).n < 23) = false := by decide
    have eo : (S.push 26 (num x)).sfOK 26 i = true := by
      unfold MS.sfOK
      rw [e0, e6, hh, hn, show (whoV 0).n = 23 from rfl, s1]; rfl
    have es : (S.push 26 (num x)).sf 26 i = ((S.push 26 (num x)).pop 26).set 23 i (num x) := by
      unfold MS.sf
      rw [e0, e6, hh, hn, show (whoV 0).n = 23 from rfl]; rfl
    rw [← es] at h3
    have gi : ((S.push 26 (num x)).sf 26 i).get 23 i = num x := by
      have := h3.g23 i hik
      rw [if_pos rfl] at this; exact this
    have hh3 : ((S.push 26 (num x)).sf 26 i).hasF (whoV 0) i = true := by rw [h3.has3 hc i, w0]; rfl
    obtain ⟨p1, h4, t4, _⟩ := h3.push (hv _)
    have ep : ((S.push 26 (num x)).sf 26 i).pfOK 26 i = true := by
      unfold MS.pfOK
      rw [h3.me, hh3, show (whoV 0).n = 23 from rfl, gi, p1]; rfl
    have eq : ((S.push 26 (num x)).sf 26 i).pf 26 i = ((S.push 26 (num x)).sf 26 i).push 26 (num x) := by
      unfold MS.pf
      rw [h3.me, hh3, if_pos rfl, show (whoV 0).n = 23 from rfl, gi]
    refine ⟨a1, h.fr.is, h1.ph, h1.fr.is, b3, by rw [eo, w0], h3.ph, h3.fr.is, by rw [ep, w0]; rfl, by rw [eq]; exact h4.g22, fun _ => ⟨fun j hj => by rw [eq]; exact h4.g23 j hj, by rw [eq]; exact t4⟩⟩
  · have w0 : (decide (c = 0 ∧ i < k)) = false := decide_eq_false hin
    have hb : (((S.push 26 (num x)).pop 26).hasF (whoV c) i && !decide (0 ≤ (whoV c).n ∧ (whoV c).n < 23)) = false := by
      rw [h2.has3 hc i, w0, Bool.false_or]
      by_cases h2' : c = 2 ∧ i = 0
      · obtain ⟨rfl, rfl⟩ := h2'; rfl
      · rw [decide_eq_false h2']; rfl
    have eo : (S.push 26 (num x)).sfOK 26 i = false := by
      unfold MS.sfOK
      rw [e0, ← Bool.and_assoc, hb]; rfl
    have es : (S.push 26 (num x)).sf 26 i = (S.push 26 (num x)).pop 26 := by
      unfold MS.sf
      rw [e0, hb]; rfl
    rw [← es] at h2
    have hh3 : ((S.push 26 (num x)).sf 26 i).hasF (whoV c) i = decide (c = 2 ∧ i = 0) := by rw [h2.has3 hc i, w0, Bool.false_or]
    by_cases h2' : c = 2 ∧ i = 0
    · obtain ⟨rfl, rfl⟩ := h2'
      have w2 : (decide ((2 : Nat) = 2 ∧ (0 : Nat) = 0)) = true := rfl
      rw [w2] at hh3
      have gi : ((S.push 26 (num x)).sf 26 (0 : Nat)).get 22 (0 : Nat) = num 0 := h2.g22
      obtain ⟨p1, h4, t4, _⟩ := h2.push (v := num 0) (MS.fits_small (n := 0) (by omega))
      have ep : ((S.push 26 (num x)).sf 26 (0 : Nat)).pfOK 26 (0 : Nat) = true := by
        unfold MS.pfOK
        rw [h2.me, hh3, show (whoV 2).n = 22 from rfl, gi, p1]; rfl
      have eq : ((S.push 26 (num x)).sf 26 (0 : Nat)).pf 26 (0 : Nat) = ((S.push 26 (num x)).sf 26 (0 : Nat)).push 26 (num 0) := by
        unfold MS.pf
        rw [h2.me, hh3, if_pos rfl, show (whoV 2).n = 22 from rfl, gi]
      exact ⟨a1, h.fr.is, h1.ph, h1.fr.is, b3, by rw [eo, w0], h2.ph, h2.fr.is, by rw [ep, w0]; rfl, by rw [eq]; exact h4.g22, fun hin' => absurd hin' hin⟩
    · rw [decide_eq_false h2'] at hh3
      have ep : ((S.push 26 (num x)).sf 26 i).pfOK 26 i = false := by
        unfold MS.pfOK
        rw [h2.me, hh3]; rfl
      have eq : ((S.push 26 (num x)).sf 26 i).pf 26 i = (S.push 26 (num x)).sf 26 i := by
        unfold MS.pf
        rw [h2.me, hh3, if_neg (by decide)]
      exact ⟨a1, h.fr.is, h1.ph, h1.fr.is, b3, by rw [eo, w0], h2.ph, h2.fr.is, by rw [ep, w0, decide_eq_false h2']; rfl, by rw [eq]; exact h2.g22, fun hin' => absurd hin' hin⟩
end Go.Proofs.YtnhijjcplnomgaaGreat.World
namespace Go.Proofs.YtnhijjcplnomgaaGreat.World
open Go.RowKit Go.Proofs.YtnhijjcplnomgaaGreat.Plain
set_option linter.unusedVariables false
def pushesW : PW := ((firstW.add 7 1 [num 3, num 4] ByteArray.empty).methL 0 2 0 [num 9]).start 25 2 (objV 23) 5
theorem pushesW_check : checkB pushesW = true := by decide +kernel
theorem pushesW_len : pushesW.L.length = 28 := by unfold pushesW PW.start PW.methL; rw [len_add, len_add, len_add, len_add, len_add]; rfl
theorem pushesW_first (i : Nat) (hi : i < 23) : tAt pushesW.L i = firstT i := by
  have e : firstW.L.length = 23 := rfl
  unfold pushesW PW.start PW.methL
  rw [tAt_add _ _ _ _ _ _ (by simp only [len_add]; omega), tAt_add _ _ _ _ _ _ (by simp only [len_add]; omega), tAt_add _ _ _ _ _ _ (by simp only [len_add]; omega), tAt_add _ _ _ _ _ _ (by simp only [len_add]; omega), tAt_add _ _ _ _ _ _ (by omega)]
  exact first_at i hi
namespace MS
theorem Std.set {S : MS} (h : S.Std) {i : Int} (hi : 23 ≤ i) (j : Int) (v : PV) : (S.set i j v).Std := by
  unfold MS.set
  split
  · rename_i ok
    have q : S.isField i j = true ∧ S.may v = true := by
      unfold MS.setOK at ok
      simp only [Bool.and_eq_true] at ok
      exact ⟨ok.1, ok.2.1⟩
    exact h.put hi q.1 q.2
  · exact h
theorem Std.push {S : MS} (h : S.Std) {i : Int} (hi : 23 ≤ i) (v : PV) : (S.push i v).Std := by
  unfold MS.push MS.push1
  split
  · exact (h.set hi _ _).set hi _ _
  · exact h
theorem Std.pop {S : MS} (h : S.Std) {i : Int} (hi : 23 ≤ i) : (S.pop i).Std := by
  unfold MS.pop MS.pop1
  exact (h.set hi _ _).set hi _ _
end MS
/-- the frame 26 with two temps, and n pushed -/
structure SP (S : MS) (n : Nat) (f : Nat → PV) : Prop where
  std : S.Std
  fr : MS.Fr S 26
  me : S.get 26 4 = objV 23
  meth : S.get 26 3 = objV 25
  blk : S.get 26 5 = objV 0
  sp : S.sp 26 = 2 + (n : Int)
  st : ∀ j : Nat, j < n → S.get 26 (8 + (j : Int)) = f j
  f23 : S.fmt 23 = 1
  s23 : S.size 23 = 2
  g23 : S.get 23 1 = num 4
  f25 : S.fmt 25 = 1
  s25 : S.size 25 = 5
  g25 : S.get 25 4 = num 9
theorem sp0 (f : Nat → PV) : SP (newS pushesW 5) 0 f := by
  have s := std_new pushesW_check pushesW_first 5
  have e3 : (newS pushesW 5).get 26 3 = objV 25 := by kernel_rfl
  have e5 : (newS pushesW 5).get 26 5 = objV 0 := by kernel_rfl
  exact ⟨s, ⟨s.wf, by decide +kernel, by rw [e3]; decide, by rw [e5]; decide⟩, by kernel_rfl, e3, e5, by kernel_rfl, fun j hj => absurd hj (by omega), by kernel_rfl, by kernel_rfl, by kernel_rfl, by kernel_rfl, by kernel_rfl, by kernel_rfl⟩
theorem SP.other {S S' : MS} {n n' : Nat} {f f' : Nat → PV} (h : SP S n f) (std : S'.Std) (fr : MS.Fr S' 26) (m : MS.Sim S S') (hsp : S'.sp 26 = 2 + (n' : Int)) (hst : ∀ j : Nat, j < n' → S'.get 26 (8 + (j : Int)) = f' j) (g : ∀ i j : Int, (i = 23 ∨ i = 25 ∨ (i = 26 ∧ 3 ≤ j ∧ j < 6)) → S'.get i j = S.get i j) : SP S' n' f' :=
  ⟨std, fr, by rw [g _ _ (by omega)]; exact h.me, by rw [g _ _ (by omega)]; exact h.meth, by rw [g _ _ (by omega)]; exact h.blk, hsp, hst, by rw [m.fmt]; exact h.f23, by rw [m.size]; exact h.s23, by rw [g _ _ (by omega)]; exact h.g23, by rw [m.fmt]; exact h.f25, by rw [m.size]; exact h.s25, by rw [g _ _ (by omega)]; exact h.g25⟩
theorem SP.ph {S : MS} {n : Nat} {f : Nat → PV} (h : SP S n f) : S.phase ≠ 1 := by rw [h.std.ph]; decide
theorem SP.push {S : MS} {n : Nat} {f : Nat → PV} (h : SP S n f) (hn : n < 14) {v : PV} (hv : S.may v = true) : S.pushOK 26 v = true ∧ SP (S.push 26 v) (n + 1) (fun j => if j = n then v else f j) ∧ MS.Sim S (S.push 26 v) ∧ (∀ i j : Int, i ≠ 26 → (S.push 26 v).get i j = S.get i j) ∧ (∀ j : Int, 6 ≤ j → j < 8 → (S.push 26 v).get 26 j = S.get 26 j) := by
  obtain ⟨ok, fr, m, g⟩ := h.fr.push (by rw [h.sp]; omega) hv
  rw [h.sp] at g
  refine ⟨ok, h.other (h.std.push (by omega) _) fr m ?_ (fun j hj => ?_) (fun i j hij => ?_), m, fun i j hi => ?_, fun j h6 h8 => ?_⟩
  · show ((S.push 26 v).get 26 2).n = _
    rw [g, if_pos ⟨rfl, rfl⟩]; show 2 + (n : Int) + 1 = _; omega
  · rw [g, if_neg (by omega)]
    by_cases e : j = n
    · rw [if_pos ⟨rfl, by omega⟩, if_pos e]
    · rw [if_neg (by omega), if_neg e]; exact h.st j (by omega)
  · rw [g, if_neg (by omega), if_neg (by omega)]
  · rw [g, if_neg (by omega), if_neg (by omega)]
  · rw [g, if_neg (by omega), if_neg (by omega)]
theorem SP.full {S : MS} {n : Nat} {f : Nat → PV} (h : SP S n f) (hn : n = 14) (v : PV) : S.pushOK 26 v = false ∧ S.push 26 v = S := MS.push_full (by rw [h.sp]; omega)
theorem SP.pop {S : MS} {n : Nat} {f : Nat → PV} (h : SP S (n + 1) f) : S.popOK 26 = true ∧ S.get 26 (6 + S.sp 26 - 1) = f n ∧ SP (S.pop 26) n f ∧ MS.Sim S (S.pop 26) ∧ (∀ i j : Int, i ≠ 26 → (S.pop 26).get i j = S.get i j) := by
  obtain ⟨ok, fr, m, g⟩ := h.fr.pop h.std.has0 (by rw [h.sp]; omega)
  rw [h.sp] at g
  have q := h.st n (by omega)
  refine ⟨ok, ?_, h.other (h.std.pop (by omega)) fr m ?_ (fun j hj => ?_) (fun i j hij => ?_), m, fun i j hi => ?_⟩
  · rw [h.sp, ← q]; congr 1; omega
  · show ((S.pop 26).get 26 2).n = _
    rw [g, if_pos ⟨rfl, rfl⟩]; show 2 + ((n + 1 : Nat) : Int) - 1 = _; omega
  · rw [g, if_neg (by omega), if_neg (by omega)]; exact h.st j (by omega)
  · rw [g, if_neg (by omega), if_neg (by omega)]
  · rw [g, if_neg (by omega), if_neg (by omega)]
/-- a new array of k fields -/
structure SA (S : MS) (k n : Nat) (f g : Nat → PV) : Prop where
  sp : SP S n f
  f28 : S.fmt 28 = 1
  s28 : S.size 28 = k
  c28 : S.cls 28 = 7
  g28 : ∀ j : Nat, j < k → S.get 28 j = g j
theorem SA.has {S : MS} {k n : Nat} {f g : Nat → PV} (h : SA S k n f g) : S.has 28 = true := MS.fmt_has (by rw [h.f28]; decide)
theorem SP.make {S : MS} {n : Nat} {f : Nat → PV} (h : SP S n f) (hl : S.L.length = 28) (hlast : S.last < 3000) (k : Nat) (hk : k ≤ 16) : S.makeOK 7 k = true ∧ S.makeId 7 k = 28 ∧ SA (S.make 7 k) k n f (fun _ => MS.nilV) := by
  obtain ⟨c1, c2, c3⟩ := h.std.cls 7 (by omega) (by omega)
  have c1 : S.isClass 7 = true := c1
  have c2 : S.madeN 7 = 0 := c2
  have c3 : S.madeF 7 = 1 := c3
  have ok : S.makeOK 7 k = true := by
    unfold MS.makeOK
    rw [c1, c2, c3, if_neg (by decide), decide_eq_true hlast, decide_eq_true (show 0 ≤ (k : Int) by omega), decide_eq_true (show (k : Int) ≤ 60 - 0 by omega)]; rfl
  have hz : (S.makeSz 7 k).toNat = k := by unfold MS.makeSz; rw [c3, if_neg (by decide), c2]; omega
  have e : S.make 7 k = S.add (MS.newT 7 1 k (S.last + 1)) := by unfold MS.make; rw [if_pos ok, c3, hz]
  have hw := make_wf h.std.wf ok
  rw [c3, hz] at hw
  have hn : (S.L.length : Int) = 28 := by rw [hl]; rfl
  have G : ∀ i : Int, i ≠ 28 → ∀ j, (S.add (MS.newT 7 1 k (S.last + 1))).get i j = S.get i j := fun i hi j => MS.get_add h.std.wf (by rw [hn]; exact hi) j
  have h23 : S.has 23 = true := MS.fmt_has (by rw [h.f23]; decide)
  have h25 : S.has 25 = true := MS.fmt_has (by rw [h.f25]; decide)
  have hh : (S.add (MS.newT 7 1 k (S.last + 1))).has 28 = true := by rw [← hn]; exact MS.has_add_new h.std.wf
  have ht : (S.add (MS.newT 7 1 k (S.last + 1))).t 28 = MS.newT 7 1 k (S.last + 1) := by rw [← hn]; exact MS.t_new
  refine ⟨ok, by unfold MS.makeId; rw [if_pos ok, hn], ?_⟩
  rw [e]
  refine ⟨⟨h.std.add hw, ⟨hw, MS.isFrame_add h.std.wf h.fr.is, by rw [G _ (by omega)]; exact h.fr.me, by rw [G _ (by omega)]; exact h.fr.bl⟩, by rw [G _ (by omega)]; exact h.me, by rw [G _ (by omega)]; exact h.meth, by rw [G _ (by omega)]; exact h.blk, ?_, fun j hj => by rw [G _ (by omega)]; exact h.st j hj, by rw [MS.fmt_old h.std.wf h23]; exact h.f23, by rw [MS.size_old h.std.wf h23]; exact h.s23, by rw [G _ (by omega)]; exact h.g23, by rw [MS.fmt_old h.std.wf h25]; exact h.f25, by rw [MS.size_old h.std.wf h25]; exact h.s25, by rw [G _ (by omega)]; exact h.g25⟩, ?_, ?_, ?_, fun j hj => ?_⟩
  · show ((S.add _).get 26 2).n = _
    rw [G _ (by omega)]; exact h.sp
  · unfold MS.fmt; rw [hh, if_pos rfl, ht]; rfl
  · unfold MS.size; rw [hh, if_pos rfl, ht]
    show ((List.replicate k MS.nilV).length : Int) + ((ByteArray.empty.size : Nat) : Int) = k
    rw [List.length_replicate]; rfl
  · unfold MS.cls; rw [hh, if_pos rfl, ht]; rfl
  · have q := MS.get_new (x := MS.newT 7 1 k (S.last + 1)) h.std.wf j (show (1 : Int) ≠ 3 by decide) (by show 0 ≤ (j : Int) ∧ (j : Int) < (List.replicate k MS.nilV).length; rw [List.length_replicate]; omega) rfl
    rw [hn] at q
    refine q.trans ?_
    show vAt (List.replicate k MS.nilV) _ = _
    rw [Int.toNat_natCast]
    exact vAt_rep k j MS.nilV hj
/-- what is popped is set in the array -/
theorem SA.step {S : MS} {k n : Nat} {f g : Nat → PV} (h : SA S k (n + 1) f g) (hf : ∀ j, ∀ T : MS, T.may (f j) = true) {j : Nat} (hj : j < k) (hc : (j = 3 ∨ j = 4) → g 3 = MS.nilV) :
    S.popOK 26 = true ∧ S.get 26 (6 + S.sp 26 - 1) = f n ∧ (S.pop 26).phase ≠ 1 ∧ (S.pop 26).setOK 28 j (f n) = true ∧ SA ((S.pop 26).set 28 j (f n)) k n f (fun q => if q = j then f n else g q) := by
  obtain ⟨ok, tp, h1, m, g1⟩ := h.sp.pop
  have f28 : (S.pop 26).fmt 28 = 1 := by rw [m.fmt]; exact h.f28
  have s28 : (S.pop 26).size 28 = k := by rw [m.size]; exact h.s28
  have c28 : (S.pop 26).cls 28 = 7 := by rw [m.cls]; exact h.c28
  have g28 : ∀ q : Nat, q < k → (S.pop 26).get 28 q = g q := fun q hq => by rw [g1 _ _ (by omega)]; exact h.g28 q hq
  have ph := h1.ph
  generalize S.pop 26 = T at *
  have hh := MS.fmt_has (S := T) (k := 28) (by rw [f28]; decide)
  have hfd : ∀ q : Nat, q < k → T.isField 28 q = true := fun q hq => by
    unfold MS.isField
    rw [hh, f28, s28, decide_eq_true (show 0 ≤ (q : Int) ∧ (q : Int) < (k : Int) by omega)]; rfl
  have hfj := hfd j hj
  have okS : T.setOK 28 j (f n) = true := by
    refine MS.setOK_of hfj (hf n T) ?_
    by_cases h34 : j = 3 ∨ j = 4
    · refine .inr ?_
      have e3 : g 3 = MS.nilV := hc h34
      have k3 : 3 < k := by omega
      have e : T.field 28 3 = MS.nilV := by
        have q := g28 3 k3
        unfold MS.get at q
        rw [if_pos (hfd 3 k3), e3] at q; exact q
      unfold MS.isClass
      rw [e, show MS.sizeOK MS.nilV = false from by decide]
      simp
    · exact .inl ⟨by omega, by omega⟩
  have e := MS.set_put okS
  have G := MS.get_put (v := f n) h1.fr.wf hfj
  have m2 := MS.sim_put (v := f n) h1.fr.wf hfj
  refine ⟨ok, tp, ph, okS, ?_⟩
  rw [e]
  have go : ∀ a b : Int, a ≠ 28 → (T.put 28 j (f n)).get a b = T.get a b := fun a b ha => by rw [G, if_neg (fun q => ha q.1)]
  have hm : (T.get 26 3).n ≠ 28 := by rw [h1.meth]; decide
  have hb : (T.get 26 5).n ≠ 28 := by rw [h1.blk]; decide
  have fr2 : MS.Fr (T.put 28 j (f n)) 26 := ⟨MS.put_wf h1.fr.wf hfj (hf n T), MS.isFrame_put h1.fr.wf hfj h1.fr.is (.inl hm) (.inl hb) (by first | exact .inl (by omega) | omega), by rw [go _ _ (by omega)]; exact h1.fr.me, by rw [go _ _ (by omega)]; exact h1.fr.bl⟩
  refine ⟨h1.other (h1.std.put (by omega) hfj (hf n T)) fr2 m2 ?_ (fun q hq => by rw [go _ _ (by omega)]; exact h1.st q hq) (fun a b hab => go a b (by omega)), by rw [m2.fmt]; exact f28, by rw [m2.size]; exact s28, by rw [m2.cls]; exact c28, fun q hq => ?_⟩
  · show ((T.put 28 j (f n)).get 26 2).n = _
    rw [go _ _ (by omega)]; exact h1.sp
  · rw [G]
    by_cases e2 : q = j
    · rw [if_pos ⟨rfl, by omega⟩, if_pos e2]
    · rw [if_neg (by omega), if_neg e2]; exact g28 q hq
/-- what list makes -/
def aL (S : MS) (k : Nat) : Nat → MS
  | 0 => S.make 7 k
  | i + 1 => ((aL S k i).pop 26).set 28 ((k : Int) - 1 - (i : Int)) ((aL S k i).get 26 (6 + (aL S k i).sp 26 - 1))
theorem aL_sa {S : MS} {p k : Nat} {f : Nat → PV} (h : SP S (p + k) f) (hl : S.L.length = 28) (hlast : S.last < 3000) (hk : k ≤ 16) (hf : ∀ j, ∀ T : MS, T.may (f j) = true) : ∀ i, i ≤ k → SA (aL S k i) k (p + (k - i)) f (fun j => if k - i ≤ j then f (p + j) else MS.nilV) := by
  intro i
  induction i with
  | zero =>
    intro _
    have q := (h.make hl hlast k hk).2.2
    exact ⟨q.sp, q.f28, q.s28, q.c28, fun j hj => by rw [if_neg (by omega)]; exact q.g28 j hj⟩
  | succ i ih =>
    intro hi
    have q := ih (by omega)
    have en : p + (k - i) = (p + (k - (i + 1))) + 1 := by omega
    rw [en] at q
    obtain ⟨a1, a2, a3, a4, a5⟩ := q.step hf (j := k - (i + 1)) (by omega) (fun h34 => by rw [if_neg (by omega)])
    have ej : (((k - (i + 1) : Nat)) : Int) = (k : Int) - 1 - (i : Int) := by omega
    rw [ej] at a5
    have e : aL S k (i + 1) = ((aL S k i).pop 26).set 28 ((k : Int) - 1 - (i : Int)) (f (p + (k - (i + 1)))) := by show ((aL S k i).pop 26).set 28 _ ((aL S k i).get 26 (6 + (aL S k i).sp 26 - 1)) = _; rw [a2]
    rw [e]
    refine ⟨a5.sp, a5.f28, a5.s28, a5.c28, fun j hj => ?_⟩
    rw [a5.g28 j hj]
    by_cases e2 : j = k - (i + 1)
    · rw [if_pos e2, if_pos (by omega), e2]
    · rw [if_neg e2]
      by_cases e3 : k - i ≤ j
      · rw [if_pos e3, if_pos (by omega)]
      · rw [if_neg e3, if_neg (by omega)]
theorem aL_step {S : MS} {p k : Nat} {f : Nat → PV} (h : SP S (p + k) f) (hl : S.L.length = 28) (hlast : S.last < 3000) (hk : k ≤ 16) (hf : ∀ j, ∀ T : MS, T.may (f j) = true) (i : Nat) (hi : i < k) :
    (aL S k i).phase ≠ 1 ∧ (aL S k i).popOK 26 = true ∧ ((aL S k i).pop 26).phase ≠ 1 ∧ ((aL S k i).pop 26).setOK 28 ((k : Int) - 1 - (i : Int)) ((aL S k i).get 26 (6 + (aL S k i).sp 26 - 1)) = true ∧ ((aL S k i).pop 26).set 28 ((k : Int) - 1 - (i : Int)) ((aL S k i).get 26 (6 + (aL S k i).sp 26 - 1)) = aL S k (i + 1) := by
  have q := aL_sa h hl hlast hk hf i (by omega)
  have ph := q.sp.ph
  have en : p + (k - i) = (p + (k - (i + 1))) + 1 := by omega
  rw [en] at q
  obtain ⟨a1, a2, a3, a4, a5⟩ := q.step hf (j := k - (i + 1)) (by omega) (fun h34 => by rw [if_neg (by omega)])
  have ej : (((k - (i + 1) : Nat)) : Int) = (k : Int) - 1 - (i : Int) := by omega
  rw [ej] at a4
  refine ⟨ph, a1, a3, by rw [a2]; exact a4, rfl⟩
/-- behind the array: it is pushed -/
theorem SA.pushed {S : MS} {p k : Nat} {f g : Nat → PV} (h : SA S k p f g) (hp : p < 14) : S.pushOK 26 (objV 28) = true ∧ SA (S.push 26 (objV 28)) k (p + 1) (fun j => if j = p then objV 28 else f j) g := by
  obtain ⟨a, b, c, d, _⟩ := h.sp.push hp (v := objV 28) h.has
  exact ⟨a, b, by rw [c.fmt]; exact h.f28, by rw [c.size]; exact h.s28, by rw [c.cls]; exact h.c28, fun j hj => by rw [d _ _ (by omega)]; exact h.g28 j hj⟩
theorem SP.hasF4 {S : MS} {n : Nat} {f : Nat → PV} (h : SP S n f) : S.hasF (S.get 26 4) 1 = true := by
  rw [h.me]
  have h23 := MS.fmt_has (S := S) (k := 23) (by rw [h.f23]; decide)
  unfold MS.hasF
  simp [objV, h23, h.f23, h.s23]
theorem SP.hasF3 {S : MS} {n : Nat} {f : Nat → PV} (h : SP S n f) (a : Int) : S.hasF (S.get 26 3) (4 + a) = decide (4 + a < 5) := by
  rw [h.meth]
  have h25 := MS.fmt_has (S := S) (k := 25) (by rw [h.f25]; decide)
  unfold MS.hasF
  simp [objV, h25, h.f25, h.s25]
theorem SP.slots {S : MS} {n : Nat} {f : Nat → PV} (h : SP S n f) (j : Nat) (hj : j < n) (hn : n ≤ 14) : S.has 26 = true ∧ S.fmt 26 ≠ 3 ∧ (S.t 26).F.length = 22 ∧ vAt (S.t 26).F (8 + j) = f j := by
  have hh := MS.isFrame_has h.fr.is
  obtain ⟨f1, s1, _⟩ := MS.isFrame_size h.fr.is
  have hB : (S.t 26).B.size = 0 := by
    have hlt := MS.has_lt hh
    refine h.fr.wf.noB (26 : Int).toNat (by omega) ?_
    have q := f1
    unfold MS.fmt at q; rw [hh, if_pos rfl] at q
    show (S.t 26).fmt ≠ 3
    rw [q]; decide
  refine ⟨hh, by rw [f1]; decide, ?_, ?_⟩
  · have q := s1
    unfold MS.size at q; rw [hh, if_pos rfl, hB] at q
    omega
  · have q := h.st j hj
    unfold MS.get at q
    rw [if_pos (h.fr.field (by omega))] at q
    unfold MS.field at q
    rw [show (8 + (j : Int)).toNat = 8 + j from by omega] at q
    exact q
theorem SA.len {S : MS} {k n : Nat} {f g : Nat → PV} (h : SA S k n f g) : S.has 28 = true ∧ S.fmt 28 ≠ 3 ∧ (S.t 28).F.length = k := by
  have hh := h.has
  have hB : (S.t 28).B.size = 0 := by
    have hlt := MS.has_lt hh
    refine h.sp.fr.wf.noB (28 : Int).toNat (by omega) ?_
    have q := h.f28
    unfold MS.fmt at q; rw [hh, if_pos rfl] at q
    show (S.t 28).fmt ≠ 3
    rw [q]; decide
  refine ⟨hh, by rw [h.f28]; decide, ?_⟩
  have q := h.s28
  unfold MS.size at q; rw [hh, if_pos rfl, hB] at q
  omega
/-- all that is asked behind the array -/
structure SPR (S : MS) (p : Nat) : Prop where
  a1 : S.phase ≠ 1
  a2 : S.isFrame 26 = true
  a3 : S.popOK 26 = true
  a4 : (S.pop 26).isFrame 26 = true
  a5 : (S.pop 26).setOK 26 7 (S.get 26 (6 + S.sp 26 - 1)) = true
  b : ∃ T1, T1 = (S.pop 26).set 26 7 (S.get 26 (6 + S.sp 26 - 1)) ∧ T1.phase ≠ 1 ∧ T1.isFrame 26 = true ∧ T1.pushOK 26 (T1.get 26 7) = true ∧
    ∃ T2, T2 = T1.push 26 (T1.get 26 7) ∧ T2.phase ≠ 1 ∧ T2.isFrame 26 = true ∧ T2.pfOK 26 1 = true ∧
    ∃ T3, T3 = T2.pf 26 1 ∧ T3.phase ≠ 1 ∧ T3.isFrame 26 = true ∧ T3.plOK 26 0 = decide (p ≤ 11) ∧ (p ≤ 11 →
    ∃ T4, T4 = T3.pl 26 0 ∧ T4.phase ≠ 1 ∧ T4.isFrame 26 = true ∧ T4.pushOK 26 (objV 26) = decide (p ≤ 10) ∧ (p ≤ 10 →
    ∃ T5, T5 = T4.push 26 (objV 26) ∧ T5.phase ≠ 1 ∧ T5.isFrame 26 = true ∧ T5.hasF (T5.get 26 3) (4 + 1) = false ∧ T5.has 26 = true ∧ T5.fmt 26 ≠ 3 ∧ (T5.t 26).F.length = 22 ∧
      vAt (T5.t 26).F (8 + p) = objV 28 ∧ vAt (T5.t 26).F (8 + p + 1) = num 4 ∧ vAt (T5.t 26).F (8 + p + 2) = num 9 ∧ vAt (T5.t 26).F (8 + p + 3) = objV 26))
theorem SA.all {S : MS} {k p : Nat} {f g : Nat → PV} (h : SA S k (p + 1) f g) (hfp : f p = objV 28) (hp : p ≤ 12) : SPR S p := by
  obtain ⟨a3, tp, h1, m1, g1⟩ := h.sp.pop
  rw [hfp] at tp
  have hv : (S.pop 26).may (objV 28) = true := by
    show (S.pop 26).has 28 = true
    rw [m1.has]; exact h.has
  obtain ⟨a5, e1, fr, m, g⟩ := h1.fr.slot (j := 7) (by omega) hv
  have h2 : SP ((S.pop 26).set 26 7 (objV 28)) p f := by
    rw [e1]
    refine h1.other (h1.std.put (by omega) (h1.fr.field (by omega)) hv) fr m ?_ (fun q hq => by rw [g, if_neg (by omega)]; exact h1.st q hq) (fun a b hab => by rw [g, if_neg (by omega)])
    show (MS.get _ 26 2).n = _
    rw [g, if_neg (by omega)]; exact h1.sp
  have g7 : ((S.pop 26).set 26 7 (objV 28)).get 26 7 = objV 28 := by rw [e1, g, if_pos ⟨rfl, rfl⟩]
  have has28 : ((S.pop 26).set 26 7 (objV 28)).has 28 = true := by rw [e1, m.has, m1.has]; exact h.has
  have R1 := h.sp.ph
  refine ⟨R1, h.sp.fr.is, a3, h1.fr.is, by rw [tp]; exact a5, ?_⟩
  rw [tp]
  generalize (S.pop 26).set 26 7 (objV 28) = T1 at *
  obtain ⟨b1, h3, m3, _, _⟩ := h2.push (by omega) (v := objV 28) has28
  refine ⟨T1, rfl, h2.ph, h2.fr.is, by rw [g7]; exact b1, ?_⟩
  rw [g7]
  generalize T1.push 26 (objV 28) = T2 at *
  have q4 := h3.hasF4
  obtain ⟨c1, h4, m4, _, _⟩ := h3.push (by omega) (v := num 4) (MS.fits_small (n := 4) (by omega))
  have ep : T2.pfOK 26 1 = true := by unfold MS.pfOK; rw [q4, h3.me, show (objV 23).n = 23 from rfl, h3.g23, c1]; rfl
  have eq : T2.pf 26 1 = T2.push 26 (num 4) := by unfold MS.pf; rw [q4, if_pos rfl, h3.me, show (objV 23).n = 23 from rfl, h3.g23]
  refine ⟨T2, rfl, h3.ph, h3.fr.is, ep, ?_⟩
  rw [eq]
  generalize T2.push 26 (num 4) = T3 at *
  have q3 : T3.hasF (T3.get 26 3) (4 + 0) = true := by rw [h4.hasF3]; rfl
  have ol : T3.plOK 26 0 = T3.pushOK 26 (num 9) := by unfold MS.plOK; rw [q3, h4.meth, show (objV 25).n = 25 from rfl, show (4 : Int) + 0 = 4 from rfl, h4.g25]; rfl
  have el : T3.pl 26 0 = T3.push 26 (num 9) := by unfold MS.pl; rw [q3, if_pos rfl, h4.meth, show (objV 25).n = 25 from rfl, show (4 : Int) + 0 = 4 from rfl, h4.g25]
  refine ⟨T3, rfl, h4.ph, h4.fr.is, ?_, fun p11 => ?_⟩
  · rw [ol]
    by_cases c : p ≤ 11
    · rw [decide_eq_true c]; exact (h4.push (by omega) (v := num 9) (MS.fits_small (n := 9) (by omega))).1
    · rw [decide_eq_false c]; exact (h4.full (by omega) _).1
  rw [el]
  obtain ⟨d1, h5, m5, _, _⟩ := h4.push (by omega) (v := num 9) (MS.fits_small (n := 9) (by omega))
  generalize T3.push 26 (num 9) = T4 at *
  refine ⟨T4, rfl, h5.ph, h5.fr.is, ?_, fun p10 => ?_⟩
  · by_cases c : p ≤ 10
    · rw [decide_eq_true c]; exact (h5.push (by omega) (v := objV 26) (MS.isFrame_has h5.fr.is)).1
    · rw [decide_eq_false c]; exact (h5.full (by omega) _).1
  obtain ⟨e1', h6, m6, _, _⟩ := h5.push (by omega) (v := objV 26) (MS.isFrame_has h5.fr.is)
  generalize T4.push 26 (objV 26) = T5 at *
  obtain ⟨s1, s2, s3, s4⟩ := h6.slots p (by omega) (by omega)
  have s5 := (h6.slots (p + 1) (by omega) (by omega)).2.2.2
  have s6 := (h6.slots (p + 2) (by omega) (by omega)).2.2.2
  have s7 := (h6.slots (p + 3) (by omega) (by omega)).2.2.2
  refine ⟨T5, rfl, h6.ph, h6.fr.is, by rw [h6.hasF3]; rfl, s1, s2, s3, ?_, ?_, ?_, ?_⟩
  · rw [s4, if_neg (by omega), if_neg (by omega), if_neg (by omega), if_pos rfl]
  · rw [show 8 + p + 1 = 8 + (p + 1) from rfl, s5, if_neg (by omega), if_neg (by omega), if_pos rfl]
  · rw [show 8 + p + 2 = 8 + (p + 2) from rfl, s6, if_neg (by omega), if_pos rfl]
  · rw [show 8 + p + 3 = 8 + (p + 3) from rfl, s7, if_pos rfl]
end Go.Proofs.YtnhijjcplnomgaaGreat.World
