/-
  Image, as one text (a claim has at most 60 files).
-/
import Derived.Test.YtjpalcejmloocaaGreatCt02
import Derived.Test.YtjpalcejmloocaaGreatCt03
import Derived.WalkSpells
import Derived.WalkMore
import Derived.Lib.Hide
import Derived.Deep.RegionHeld3
import Derived.Deep.DrawnRows
namespace Go.Proofs.YtjpalcejmloocaaGreat.World
open Go.RowKit Go.Proofs.YtjpalcejmloocaaGreat.Plain
set_option linter.unusedVariables false
attribute [local go_sem ↓] Go.wp_at_zero Go.wp_at_succ

section
variable {w : World} {x : WV} {W : PW}
/-- a world's value, its slices written out -/
theorem Row.form {v : Value} {n sz : Nat} {c : Nat → Nat → Value} (h : Row w v n sz c) : ∃ A cap, v = .slice A n cap ∧ n ≤ cap ∧ cap ≤ 9223372036854775807 := by
  obtain ⟨A, cap, e, h1, h2, _⟩ := h.ex
  exact ⟨A, cap, e, h1, h2⟩
theorem Row.at_ {A : Option Addr} {n cap sz : Nat} {c : Nat → Nat → Value} (h : Row w (.slice A n cap) n sz c) (i : Nat) (hi : i < n) : ∃ b off, A = some ⟨b, off, none⟩ ∧ b < w.heap.size ∧ ∀ j, j < sz → w.cell? ⟨b, off + i * sz + j, none⟩ = some (c i j) := by
  obtain ⟨A', cap', e, _, _, h3⟩ := h.ex
  injection e with e1 e2 e3
  subst e1
  exact h3 i hi
def deadOk (W : PW) : Prop := W.dead.length = 0 ∨ W.dead.length = W.L.length
set_option maxRecDepth 100000 in
set_option maxHeartbeats 1000000 in
theorem alive (h : WorldAt w x W) (hd : deadOk W) (at_ : Int) : Calls Tryz.prog 82 #[.agg (cellsW W x), .int .i64 at_] w fun e w' => e = .returned (.bool (liveB W at_)) ∧ Ext w w' := by
  obtain ⟨vL, fs, vD, vRe, vWa, vDu, vSn⟩ := x
  obtain ⟨AL, cL, e1, l1, l2⟩ := h.L.row.form
  obtain ⟨AD, cD, e2, l3, l4⟩ := Row.form h.dead
  have e1 : vL = .slice AL W.L.length cL := e1
  have e2 : vD = .slice AD W.dead.length cD := e2
  subst e1 e2
  have HD : BoolsAt w (.slice AD W.dead.length cD) W.dead := h.dead
  have E : Hid (liveB W at_ = (decide (0 ≤ at_ ∧ at_ < W.L.length) && !(W.dead.getD at_.toNat false))) := rfl
  unfold deadOk at hd
  unfold cellsW
  by_cases h1 : 0 ≤ at_
  · by_cases h2 : at_ < (W.L.length : Int)
    · obtain ⟨k, rfl⟩ := Int.eq_ofNat_of_zero_le h1
      rw [decide_eq_true ⟨h1, h2⟩, Int.toNat_natCast] at E
      by_cases h3 : W.dead.length = 0
      · have e3 : Hid (W.dead.getD k false = false) := Lib.hid (by rw [List.getD_eq_getElem?_getD, List.getElem?_eq_none (by omega)]; rfl)
        have d3 : ((W.dead.length : Int) == 0) = true := beq_iff_eq.2 (by omega)
        clear h HD hd h3
        generalize W.L.length = n at *
        generalize W.dead.length = m at *
        go_enter Tryz.func82, Tryz.ntmps82
        go_wp2
        go_ret
        exact ⟨ret_bool (by rw [E.out, e3.out]; rfl), (Ext.refl _).alloc _⟩
      · obtain ⟨b, off, rfl, hb, hc⟩ := Row.at_ HD k (by omega)
        have c1 := hc 0 (by omega)
        have c1 : w.cell? ⟨b, off + k, none⟩ = some (.bool (W.dead.getD k false)) := by simpa using c1
        have d3 : ((W.dead.length : Int) == 0) = false := beq_eq_false_iff_ne.2 (by omega)
        have h4 : (k : Int) < (W.dead.length : Int) := by omega
        clear h HD hd h3 hc
        generalize W.L.length = n at *
        generalize W.dead.length = m at *
        generalize W.dead.getD k false = q at *
        go_enter Tryz.func82, Tryz.ntmps82
        go_wp2
        go_ret
        exact ⟨ret_bool (by rw [E.out]; rfl), (Ext.refl _).alloc _⟩
    · have E2 : Hid (liveB W at_ = false) := Lib.hid (by rw [E.out, decide_eq_false (by omega), Bool.false_and])
      have d1 : decide (at_ < (W.L.length : Int)) = false := decide_eq_false h2
      clear h HD hd E
      generalize W.L.length = n at *
      go_enter Tryz.func82, Tryz.ntmps82
      go_wp2
      go_ret
      exact ⟨ret_bool (by rw [E2.out]), (Ext.refl _).alloc _⟩
  · have E2 : Hid (liveB W at_ = false) := Lib.hid (by rw [E.out, decide_eq_false (by omega), Bool.false_and])
    have d1 : decide (0 ≤ at_) = false := decide_eq_false h1
    clear h HD hd E
    go_enter Tryz.func82, Tryz.ntmps82
    go_wp2
    go_ret
    exact ⟨ret_bool (by rw [E2.out]), (Ext.refl _).alloc _⟩
set_option maxRecDepth 100000 in
set_option maxHeartbeats 1000000 in
theorem there (h : WorldAt w x W) (hd : deadOk W) (at_ : Int) : Calls Tryz.prog 53 #[.agg (cellsW W x), .int .i64 at_] w fun e w' => e = .returned (.bool (thereB W at_)) ∧ Ext w w' := by
  have HA := Lib.hid (fun w' (e : Ext w w') => alive (h.ext e) hd at_)
  have E : Hid (thereB W at_ = (!decide (at_ = 0) && liveB W at_)) := rfl
  obtain ⟨vL, fs, vD, vRe, vWa, vDu, vSn⟩ := x
  unfold cellsW at HA ⊢
  clear h hd
  by_cases h0 : at_ = 0
  · have E2 : Hid (thereB W at_ = false) := Lib.hid (by rw [E.out, decide_eq_true h0]; rfl)
    subst h0
    clear E
    go_enter Tryz.func53, Tryz.ntmps53
    go_wp2
    go_ret
    exact ⟨ret_bool (by rw [E2.out]), (Ext.refl _).alloc _⟩
  · have E2 : Hid (thereB W at_ = liveB W at_) := Lib.hid (by rw [E.out, decide_eq_false h0]; rfl)
    have d0 : (at_ != 0) = true := by simpa using h0
    clear E h0
    generalize liveB W at_ = q at *
    go_enter Tryz.func53, Tryz.ntmps53
    go_wp2_with fail
    refine (HA.out _ ((Ext.refl _).alloc _)).mono ?_
    rintro e w1 ⟨rfl, x1⟩
    go_wp2_with fail
    go_ret
    exact ⟨ret_bool (by rw [E2.out]), ((Ext.refl _).alloc _).trans x1⟩
/-! ### a thing's shape -/
def thingV (t : PT) (vF : Value) : Value := .agg #[.int .i64 t.cls, .int .i64 t.fmt, .int .i64 t.hash, .bool t.fin, vF, .string t.B]
set_option maxRecDepth 100000 in
set_option maxHeartbeats 1000000 in
theorem isClass {t : PT} {vF : Value} (h : ValsAt w vF t.F) : Calls Tryz.prog 83 #[thingV t vF] w fun e w' => e = .returned (.bool (isClsB t)) ∧ Ext w w' := by
  obtain ⟨A, c, rfl, h1, h2⟩ := Row.form h
  have E : Hid (isClsB t = (decide (t.fmt = 1) && (decide (5 ≤ t.F.length) && (numB (vAt t.F 3) 0 60 && numB (vAt t.F 4) 1 3)))) := rfl
  have HR := Lib.hid h
  unfold thingV
  clear h
  by_cases f1 : t.fmt = 1
  · rw [decide_eq_true f1] at E
    rw [f1]
    by_cases f5 : 5 ≤ t.F.length
    · rw [decide_eq_true f5] at E
      obtain ⟨b, off, rfl, hb, hc3⟩ := Row.at_ HR.out 3 (by omega)
      obtain ⟨b', off', e', _, hc4⟩ := Row.at_ HR.out 4 (by omega)
      injection e' with e'
      injection e' with e1 e2
      subst e1 e2
      have c30 : w.cell? ⟨b, off + 6, none⟩ = some (.bool (vAt t.F 3).obj) := hc3 0 (by omega)
      have c31 : w.cell? ⟨b, off + 6 + 1, none⟩ = some (.int .i64 (vAt t.F 3).n) := hc3 1 (by omega)
      have c40 : w.cell? ⟨b, off + 8, none⟩ = some (.bool (vAt t.F 4).obj) := hc4 0 (by omega)
      have c41 : w.cell? ⟨b, off + 8 + 1, none⟩ = some (.int .i64 (vAt t.F 4).n) := hc4 1 (by omega)
      have E3 : Hid (numB (vAt t.F 3) 0 60 = (!(vAt t.F 3).obj && decide (0 ≤ (vAt t.F 3).n ∧ (vAt t.F 3).n ≤ 60))) := rfl
      have E4 : Hid (numB (vAt t.F 4) 1 3 = (!(vAt t.F 4).obj && decide (1 ≤ (vAt t.F 4).n ∧ (vAt t.F 4).n ≤ 3))) := rfl
      have l5 : (5 : Int) ≤ (t.F.length : Int) := by omega
      clear hc3 hc4 HR f5 f1
      generalize vAt t.F 3 = v3 at *
      generalize vAt t.F 4 = v4 at *
      generalize t.F.length = n at *
      go_enter Tryz.func83, Tryz.ntmps83
      go_wp2
      refine wp_name (fun W1 hW => ?_)
      have B1 := Blk.new' hW
      have X1 := (Ext.refl w).alloc' hW
      have c30 := (X1.below.cell (p := ⟨b, off + 6, none⟩) hb).trans c30
      have c31 := (X1.below.cell (p := ⟨b, off + 6 + 1, none⟩) hb).trans c31
      have c40 := (X1.below.cell (p := ⟨b, off + 8, none⟩) hb).trans c40
      have c41 := (X1.below.cell (p := ⟨b, off + 8 + 1, none⟩) hb).trans c41
      have c1 := B1.cell 4
      have hz : W1.heap.size = w.heap.size + 1 := by rw [hW]; simp
      have hs := B1.lt
      have hb2 : b < W1.heap.size := by omega
      have i3 : (3 : Int) < (n : Int) := by omega
      have i4 : (4 : Int) < (n : Int) := by omega
      clear hW B1 hz
      generalize w.heap.size = q at *
      have n1 := World.new_ne _ _ c30
      have n2 := World.new_ne _ _ c40
      have n3 := World.new_ne _ _ c1
      go_region_held3 (fun w' => w'.cell? ⟨b, off + 6, none⟩ = some (.bool v3.obj) ∧ w'.cell? ⟨b, off + 6 + 1, none⟩ = some (.int .i64 v3.n) ∧ w'.cell? ⟨b, off + 8, none⟩ = some (.bool v4.obj) ∧ w'.cell? ⟨b, off + 8 + 1, none⟩ = some (.int .i64 v4.n) ∧ w'.cell? ⟨q, 4, none⟩ = some (.slice (some ⟨b, off, none⟩) n c)) (go_keep) (fail)
      all_goals go_wp2
      all_goals
        go_ret
        refine ⟨ret_bool ?_, ((X1.alloc _).alloc _).drew⟩
        rw [E.out, E3.out, E4.out]
        simp [*] <;> omega
    · have E2 : Hid (isClsB t = false) := Lib.hid (by rw [E.out, decide_eq_false f5]; rfl)
      have d5 : decide ((t.F.length : Int) < 5) = true := decide_eq_true (by omega)
      clear HR f1 f5 E
      generalize t.F.length = n at *
      go_enter Tryz.func83, Tryz.ntmps83
      go_wp2
      go_ret
      exact ⟨ret_bool (by rw [E2.out]), (Ext.refl _).alloc _⟩
  · have E2 : Hid (isClsB t = false) := Lib.hid (by rw [E.out, decide_eq_false f1]; rfl)
    have d1 : (t.fmt != 1) = true := by simpa using f1
    clear HR f1 E
    go_enter Tryz.func83, Tryz.ntmps83
    go_wp2
    go_ret
    exact ⟨ret_bool (by rw [E2.out]), (Ext.refl _).alloc _⟩
end
end Go.Proofs.YtjpalcejmloocaaGreat.World
