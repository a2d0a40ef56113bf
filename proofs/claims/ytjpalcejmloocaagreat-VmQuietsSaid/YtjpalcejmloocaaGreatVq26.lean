/-
  Image7, Reach5, ReachPlain, as one text (a claim has at most 60 files).
-/
import Derived.Test.YtjpalcejmloocaaGreatVq25
import Derived.Test.YtjpalcejmloocaaGreatVq24
import Derived.Test.YtjpalcejmloocaaGreatVq12
namespace Go.Proofs.YtjpalcejmloocaaGreat.World
open Go.RowKit Go.Proofs.YtjpalcejmloocaaGreat.Plain
set_option linter.unusedVariables false
attribute [local go_sem ↓] Go.wp_at_zero Go.wp_at_succ

section
variable {w : World} {x : WV} {W : PW}
set_option maxRecDepth 100000 in
set_option maxHeartbeats 4000000 in
theorem check (h : WorldAt w x W) : Calls Tryz.prog 20 #[.agg (cellsW W x)] w fun e w' => e = .returned (.bool (checkB W)) ∧ Ext w w' := by
  have HH := Lib.hid h
  have EC : Hid (checkB W = (decide (23 ≤ W.L.length ∧ W.L.length ≤ 3000) && (decide (W.dead.length = 0 ∨ W.dead.length = W.L.length) && (thingsB W && (specB W && regsB W))))) := rfl
  obtain ⟨vL, fs, vD, vRe, vWa, vDu, vSn⟩ := x
  obtain ⟨A1, c1, e1, l1, l1'⟩ := h.L.row.form
  have e1 : vL = .slice A1 W.L.length c1 := e1
  subst e1
  obtain ⟨A2, c2, e2, l2, l2'⟩ := Row.form h.dead
  have e2 : vD = .slice A2 W.dead.length c2 := e2
  subst e2
  obtain ⟨A3, c3, e3, l3, l3'⟩ := Row.form h.ready
  have e3 : vRe = .slice A3 W.R.ready.length c3 := e3
  subst e3
  obtain ⟨A4, c4, e4, l4, l4'⟩ := Row.form h.wait
  have e4 : vWa = .slice A4 W.R.wait.length c4 := e4
  subst e4
  obtain ⟨A5, c5, e5, l5, l5'⟩ := Row.form h.due
  have e5 : vDu = .slice A5 W.R.due.length c5 := e5
  subst e5
  obtain ⟨A6, c6, e6, l6, l6'⟩ := Row.form h.snaps
  have e6 : vSn = .slice A6 W.R.snaps.length c6 := e6
  subst e6
  clear h
  unfold cellsW
  go_enter Tryz.func20, Tryz.ntmps20
  go_upto_region 3 with (fail)
  refine wp_name (fun W1 hW => ?_)
  have BX := Blk.new' hW
  have X0 := ((Ext.refl w).alloc _).alloc' hW
  simp only [World.size_alloc] at BX
  clear hW
  have H1 := HH.out.ext X0
  obtain ⟨r1, r2, r3⟩ := BX.rules
  by_cases hn : 23 ≤ W.L.length ∧ W.L.length ≤ 3000
  · obtain ⟨hn1, hn2⟩ := hn
    rw [decide_eq_true ⟨hn1, hn2⟩, Bool.true_and] at EC
    by_cases hd : W.dead.length = 0 ∨ W.dead.length = W.L.length
    · rw [decide_eq_true hd, Bool.true_and] at EC
      have CT := Lib.hid (fun w' (e : Ext W1 w') => things (H1.ext e) hd (by omega))
      have CS := Lib.hid (fun w' (e : Ext W1 w') => specials (H1.ext e) hn1)
      have CR := Lib.hid (fun w' (e : Ext W1 w') => regs (H1.ext e) hd)
      unfold cellsW at CT CS CR
      have BB := Lib.hid BX
      have XX := Lib.hid X0
      clear BX X0 H1
      generalize W.L.length = n at *
      generalize W.dead.length = m at *
      cases h1 : thingsB W with
      | false =>
        rw [h1, Bool.false_and] at EC
        rw [h1] at CT
        clear h1
        by_cases hm : m = 0
        · have d0 : ((m : Int) == 0) = true := beq_iff_eq.2 (by omega)
          clear hm hd
          go_wp2_with fail
          refine (CT.out _ (Ext.refl _)).mono ?_
          rintro e w2 ⟨rfl, x2⟩
          go_wp2_with fail
          go_ret
          exact ⟨ret_bool (by rw [EC.out]), XX.out.trans x2⟩
        · have d0 : ((m : Int) == 0) = false := beq_eq_false_iff_ne.2 (by omega)
          have d1 : ((m : Int) == (n : Int)) = true := beq_iff_eq.2 (by omega)
          have d1' : (m == n) = true := beq_iff_eq.2 (by omega)
          clear hm hd
          go_wp2_with fail
          refine (CT.out _ (Ext.refl _)).mono ?_
          rintro e w2 ⟨rfl, x2⟩
          go_wp2_with fail
          go_ret
          exact ⟨ret_bool (by rw [EC.out]), XX.out.trans x2⟩
      | true =>
        rw [h1, Bool.true_and] at EC
        rw [h1] at CT
        clear h1
        cases h2 : specB W with
        | false =>
          rw [h2, Bool.false_and] at EC
          rw [h2] at CS
          clear h2
          by_cases hm : m = 0
          · have d0 : ((m : Int) == 0) = true := beq_iff_eq.2 (by omega)
            clear hm hd
            go_wp2_with fail
            refine (CT.out _ (Ext.refl _)).mono ?_
            rintro e w2 ⟨rfl, x2⟩
            clear r1 r2 r3
            obtain ⟨r1, r2, r3⟩ := (BB.out.ext x2).rules
            go_wp2_with fail
            refine (CS.out _ x2).mono ?_
            rintro e w3 ⟨rfl, x3⟩
            go_wp2_with fail
            go_ret
            exact ⟨ret_bool (by rw [EC.out]), (XX.out.trans x2).trans x3⟩
          · have d0 : ((m : Int) == 0) = false := beq_eq_false_iff_ne.2 (by omega)
            have d1 : ((m : Int) == (n : Int)) = true := beq_iff_eq.2 (by omega)
            have d1' : (m == n) = true := beq_iff_eq.2 (by omega)
            clear hm hd
            go_wp2_with fail
            refine (CT.out _ (Ext.refl _)).mono ?_
            rintro e w2 ⟨rfl, x2⟩
            clear r1 r2 r3
            obtain ⟨r1, r2, r3⟩ := (BB.out.ext x2).rules
            go_wp2_with fail
            refine (CS.out _ x2).mono ?_
            rintro e w3 ⟨rfl, x3⟩
            go_wp2_with fail
            go_ret
            exact ⟨ret_bool (by rw [EC.out]), (XX.out.trans x2).trans x3⟩
        | true =>
          rw [h2, Bool.true_and] at EC
          rw [h2] at CS
          clear h2
          by_cases hm : m = 0
          · have d0 : ((m : Int) == 0) = true := beq_iff_eq.2 (by omega)
            clear hm hd
            go_wp2_with fail
            refine (CT.out _ (Ext.refl _)).mono ?_
            rintro e w2 ⟨rfl, x2⟩
            clear r1 r2 r3
            obtain ⟨r1, r2, r3⟩ := (BB.out.ext x2).rules
            go_wp2_with fail
            refine (CS.out _ x2).mono ?_
            rintro e w3 ⟨rfl, x3⟩
            clear r1 r2 r3
            obtain ⟨r1, r2, r3⟩ := (BB.out.ext (x2.trans x3)).rules
            go_wp2_with fail
            refine (CR.out _ (x2.trans x3)).mono ?_
            rintro e w4 ⟨rfl, x4⟩
            go_wp2_with fail
            go_ret
            exact ⟨ret_bool (by rw [EC.out]), ((XX.out.trans x2).trans x3).trans x4⟩
          · have d0 : ((m : Int) == 0) = false := beq_eq_false_iff_ne.2 (by omega)
            have d1 : ((m : Int) == (n : Int)) = true := beq_iff_eq.2 (by omega)
            have d1' : (m == n) = true := beq_iff_eq.2 (by omega)
            clear hm hd
            go_wp2_with fail
            refine (CT.out _ (Ext.refl _)).mono ?_
            rintro e w2 ⟨rfl, x2⟩
            clear r1 r2 r3
            obtain ⟨r1, r2, r3⟩ := (BB.out.ext x2).rules
            go_wp2_with fail
            refine (CS.out _ x2).mono ?_
            rintro e w3 ⟨rfl, x3⟩
            clear r1 r2 r3
            obtain ⟨r1, r2, r3⟩ := (BB.out.ext (x2.trans x3)).rules
            go_wp2_with fail
            refine (CR.out _ (x2.trans x3)).mono ?_
            rintro e w4 ⟨rfl, x4⟩
            go_wp2_with fail
            go_ret
            exact ⟨ret_bool (by rw [EC.out]), ((XX.out.trans x2).trans x3).trans x4⟩
    · rw [decide_eq_false hd, Bool.false_and] at EC
      have XX := Lib.hid X0
      have d0 : ((W.dead.length : Int) == 0) = false := beq_eq_false_iff_ne.2 (by omega)
      have d1 : ((W.dead.length : Int) == (W.L.length : Int)) = false := beq_eq_false_iff_ne.2 (by omega)
      have d1' : (W.dead.length == W.L.length) = false := beq_eq_false_iff_ne.2 (by omega)
      clear BX X0 H1 hd
      generalize W.L.length = n at *
      generalize W.dead.length = m at *
      go_wp2
      go_ret
      exact ⟨ret_bool (by rw [EC.out]), XX.out⟩
  · rw [decide_eq_false hn, Bool.false_and] at EC
    have XX := Lib.hid X0
    clear BX X0 H1
    generalize W.L.length = n at *
    have HNN := Lib.hid hn
    clear hn
    by_cases h1 : n < 23
    · go_wp2
      go_ret
      exact ⟨ret_bool (by rw [EC.out]), XX.out⟩
    · have h2 : 3000 < n := by have := HNN.out; omega
      go_wp2
      go_ret
      exact ⟨ret_bool (by rw [EC.out]), XX.out⟩
end
end Go.Proofs.YtjpalcejmloocaaGreat.World
namespace Go.Proofs.YtjpalcejmloocaaGreat.World
open Go.RowKit Go.Proofs.YtjpalcejmloocaaGreat.Plain
set_option linter.unusedVariables false
attribute [local go_sem ↓] Go.wp_at_zero Go.wp_at_succ
end Go.Proofs.YtjpalcejmloocaaGreat.World
namespace Go.Proofs.YtjpalcejmloocaaGreat.World
open Go.RowKit Go.Proofs.YtjpalcejmloocaaGreat.Plain
set_option linter.unusedVariables false
/-- what can be come to: from the roots, step by step -/
inductive Rch (nx : Nat → List Int) (roots : List Int) : Nat → Prop
  | root {r : Int} (h : r ∈ roots) : Rch nx roots r.toNat
  | step {i : Nat} {j : Int} (h : Rch nx roots i) (hj : j ∈ nx i) : Rch nx roots j.toNat
def sB (seen : List Bool) (i : Nat) : Bool := seen.getD i false
def unseen (l : List Bool) : Nat := l.countP (fun b => !b)
theorem sB_set (l : List Bool) (i j : Nat) (hi : i < l.length) : sB (l.set i true) j = if j = i then true else sB l j := by
  unfold sB
  rw [List.getD_eq_getElem?_getD, List.getD_eq_getElem?_getD, List.getElem?_set]
  by_cases e : i = j
  · subst e; rw [if_pos rfl, if_pos hi, if_pos rfl]; rfl
  · rw [if_neg e, if_neg (fun h => e h.symm)]
theorem unseen_set (l : List Bool) : ∀ i, i < l.length → sB l i = false → unseen (l.set i true) + 1 = unseen l := by
  induction l with
  | nil => intro i hi; exact absurd hi (by simp)
  | cons b l ih =>
    intro i hi hb
    cases i with
    | zero =>
      have e : b = false := hb
      subst e
      unfold unseen
      rw [List.set_cons_zero, List.countP_cons, List.countP_cons]
      simp
    | succ i =>
      have q := ih i (by simpa using hi) (by unfold sB at hb ⊢; simpa using hb)
      unfold unseen at q ⊢
      rw [List.set_cons_succ, List.countP_cons, List.countP_cons]
      omega
section
variable {N : Nat} {nx : Nat → List Int} {roots : List Int} {seen : List Bool} {stack : List Int} {t : Nat} {don : List Int} {j : Int}
/-- between two pops -/
structure WS (N : Nat) (nx : Nat → List Int) (roots : List Int) (seen : List Bool) (stack : List Int) : Prop where
  len : seen.length = N
  stk : ∀ x ∈ stack, 0 ≤ x ∧ x < N ∧ sB seen x.toNat = true
  sound : ∀ i, sB seen i = true → Rch nx roots i
  rts : ∀ r ∈ roots, sB seen r.toNat = true
  closed : ∀ i : Nat, sB seen i = true → (i : Int) ∉ stack → ∀ j ∈ nx i, sB seen j.toNat = true
/-- one has been popped, some of its nexts are done -/
structure WM (N : Nat) (nx : Nat → List Int) (roots : List Int) (seen : List Bool) (stack : List Int) (t : Nat) (don : List Int) : Prop where
  len : seen.length = N
  stk : ∀ x ∈ stack, 0 ≤ x ∧ x < N ∧ sB seen x.toNat = true
  sound : ∀ i, sB seen i = true → Rch nx roots i
  rts : ∀ r ∈ roots, sB seen r.toNat = true
  closed : ∀ i : Nat, i ≠ t → sB seen i = true → (i : Int) ∉ stack → ∀ j ∈ nx i, sB seen j.toNat = true
  t : sB seen t = true
  don : ∀ j ∈ don, sB seen j.toNat = true
theorem WM.skip (h : WM N nx roots seen stack t don) (hj : sB seen j.toNat = true) : WM N nx roots seen stack t (don ++ [j]) :=
  ⟨h.len, h.stk, h.sound, h.rts, h.closed, h.t, fun k hk => by
    rcases List.mem_append.1 hk with hk | hk
    · exact h.don k hk
    · rw [List.mem_singleton] at hk; subst hk; exact hj⟩
theorem WM.push (h : WM N nx roots seen stack t don) (hn : j ∈ nx t) (hr : 0 ≤ j ∧ j < N) (hj : sB seen j.toNat = false) : WM N nx roots (seen.set j.toNat true) (stack ++ [j]) t (don ++ [j]) ∧ unseen (seen.set j.toNat true) + 1 = unseen seen := by
  have hl : j.toNat < seen.length := by rw [h.len]; omega
  have S : ∀ i, sB (seen.set j.toNat true) i = if i = j.toNat then true else sB seen i := fun i => sB_set _ _ _ hl
  have up : ∀ i, sB seen i = true → sB (seen.set j.toNat true) i = true := fun i hi => by rw [S]; split <;> first | rfl | exact hi
  refine ⟨⟨by rw [List.length_set]; exact h.len, fun x hx => ?_, fun i hi => ?_, fun r hr' => up _ (h.rts r hr'), fun i hit hi hns k hk => ?_, up _ h.t, fun k hk => ?_⟩, unseen_set _ _ hl hj⟩
  · rcases List.mem_append.1 hx with hx | hx
    · obtain ⟨a, b, c⟩ := h.stk x hx; exact ⟨a, b, up _ c⟩
    · rw [List.mem_singleton] at hx; subst hx; exact ⟨hr.1, hr.2, by rw [S, if_pos rfl]⟩
  · rw [S] at hi
    by_cases e : i = j.toNat
    · subst e; exact .step (h.sound _ h.t) hn
    · rw [if_neg e] at hi; exact h.sound i hi
  · rw [S] at hi
    by_cases e : i = j.toNat
    · exact absurd (show (i : Int) ∈ stack ++ [j] by rw [e, Int.toNat_of_nonneg hr.1]; simp) hns
    · rw [if_neg e] at hi
      exact up _ (h.closed i hit hi (fun hm => hns (by simp [hm])) k hk)
  · rcases List.mem_append.1 hk with hk | hk
    · exact up _ (h.don k hk)
    · rw [List.mem_singleton] at hk; subst hk; rw [S, if_pos rfl]
theorem WM.fin (h : WM N nx roots seen stack t (nx t)) : WS N nx roots seen stack :=
  ⟨h.len, h.stk, h.sound, h.rts, fun i hi hn k hk => by
    by_cases e : i = t
    · subst e; exact h.don k hk
    · exact h.closed i e hi hn k hk⟩
/-- the end: what is seen is what can be come to -/
def RchL (N : Nat) (nx : Nat → List Int) (roots : List Int) (l : List Bool) : Prop := l.length = N ∧ ∀ i, sB l i = true ↔ Rch nx roots i
theorem WS.done (h : WS N nx roots seen []) : RchL N nx roots seen := by
  refine ⟨h.len, fun i => ⟨h.sound i, fun hr => ?_⟩⟩
  induction hr with
  | root hm => exact h.rts _ hm
  | step _ hj ih => exact h.closed _ ih (by simp) _ hj
end
/-! ### of a world -/
def objsOf (F : List PV) : List Int := (F.filter (fun v => v.obj)).map (fun v => v.n)
def goesOn (weak : Bool) (t : PT) : Bool := decide (t.fmt = 1) || (decide (t.fmt = 2) && weak)
def nextsOf (weak : Bool) (t : PT) : List Int := t.cls :: (if goesOn weak t then objsOf t.F else [])
def nxW (W : PW) (weak : Bool) (i : Nat) : List Int := nextsOf weak (tAt W.L i)
/-- a world that may be: its things, as far as a walk goes -/
theorem check_thing {W : PW} (h : checkB W = true) {i : Nat} (hi : i < W.L.length) : (0 ≤ (tAt W.L i).cls ∧ (tAt W.L i).cls < W.L.length) ∧ shapeB W.L.length (tAt W.L i) = true := by
  unfold checkB at h
  simp only [Bool.and_eq_true] at h
  have hT := h.2.2.1
  unfold thingsB at hT
  rw [Bool.and_eq_true] at hT
  have q := (allTo_iff _ _).1 hT.1 i hi
  unfold oneB thingB at q
  simp only [Bool.and_eq_true, decide_eq_true_eq] at q
  exact ⟨q.2.2.1, q.2.2.2.1⟩
theorem check_len {W : PW} (h : checkB W = true) : 23 ≤ W.L.length ∧ W.L.length ≤ 3000 := by
  unfold checkB at h
  simp only [Bool.and_eq_true, decide_eq_true_eq] at h
  exact h.1
end Go.Proofs.YtjpalcejmloocaaGreat.World
