/-
  Contracts of package frame (chapter 14): Top, Push, Pop.
-/
import Derived.Test.YtnhijjcplnomgaaGreatFrame2
namespace Go.Proofs.YtnhijjcplnomgaaGreat.World
open Go.RowKit Go.Proofs.YtnhijjcplnomgaaGreat.Plain
set_option linter.unusedVariables false
attribute [local go_sem ↓] Go.wp_at_zero Go.wp_at_succ
namespace MS
def sp (S : MS) (id : Int) : Int := (S.get id 2).n
def topOK (S : MS) (id d : Int) : Bool := S.isFrame id && decide (0 ≤ d ∧ d < S.sp id)
def topV (S : MS) (id d : Int) : PV := if S.topOK id d then S.get id (6 + S.sp id - 1 - d) else dV
def push1 (S : MS) (id : Int) (v : PV) : MS := S.set id (6 + S.sp id) v
def pushOK (S : MS) (id : Int) (v : PV) : Bool := S.isFrame id && (decide (S.sp id < 16) && (S.setOK id (6 + S.sp id) v && (S.push1 id v).setOK id 2 (num (S.sp id + 1))))
def push (S : MS) (id : Int) (v : PV) : MS := if S.isFrame id && (decide (S.sp id < 16) && S.setOK id (6 + S.sp id) v) then (S.push1 id v).set id 2 (num (S.sp id + 1)) else S
theorem set_phase (S : MS) (i j : Int) (v : PV) : (S.set i j v).phase = S.phase := by unfold set; split <;> rfl
theorem sp_bd {S : MS} {id : Int} (h : S.isFrame id = true) : 0 ≤ S.sp id ∧ S.sp id ≤ 16 := by
  unfold isFrame numB at h
  simp only [Bool.and_eq_true, decide_eq_true_eq] at h
  exact h.2.2.2.1.2
end MS
section
variable {w w' w2 : World} {F F' F2 : Nat → Prop} {m : Nat} {S S' : MS} {X : MX}
set_option maxRecDepth 100000 in
set_option maxHeartbeats 2000000 in
theorem ftop (h : M w F m S) (id d : Int) : Calls Tryz.prog 48 #[.pointer (some ⟨m, 0, none⟩), .int .i64 id, .int .i64 d] w fun e w' => e = .returned (.tuple #[val (S.topV id d), .bool (S.topOK id d)]) ∧ Ext w w' := by
  have C1 := Lib.hid (fun W [x : IsExt w W] => fis (h.ext x.out) id)
  have C3 := Lib.hid (fun W [x : IsExt w W] i => mget (h.ext x.out) id i)
  have E : Hid (S.topOK id d = (S.isFrame id && decide (0 ≤ d ∧ d < (S.get id 2).n))) := Lib.hid rfl
  have EV : Hid (S.topV id d = if S.topOK id d then S.get id (6 + (S.get id 2).n - 1 - d) else dV) := Lib.hid rfl
  have hb : S.isFrame id = true → 0 ≤ (S.get id 2).n ∧ (S.get id 2).n ≤ 16 := @MS.sp_bd S id
  clear h
  by_cases hok : S.topOK id d = true
  · have hq : S.isFrame id = true ∧ 0 ≤ d ∧ d < (S.get id 2).n := by
      rw [E.out] at hok; simp only [Bool.and_eq_true, decide_eq_true_eq] at hok; exact hok
    obtain ⟨hf, h0, h1⟩ := hq
    obtain ⟨b0, b1⟩ := hb hf
    rw [hok, if_pos rfl] at EV
    rw [hf] at C1
    have OK := Lib.hid hok
    clear hok E hb hf
    unfold val at *
    go_enter Tryz.func48, Tryz.ntmps48
    go_wp2_with (first | (go_at_call 39; refine (C1.out _).mono ?_; rintro e w2 ⟨rfl, x2⟩; obtain ⟨y, rfl⟩ := x2) | (go_at_call 24; refine (C3.out _ _).mono ?_; rintro e w2 ⟨rfl, x2⟩; obtain ⟨y, rfl⟩ := x2))
    rw [EV.out, OK.out]
    refine bodyPost_ret (v := .tuple #[.agg #[.bool (S.get id (6 + (S.get id 2).n - 1 - d)).obj, .int .i64 (S.get id (6 + (S.get id 2).n - 1 - d)).n], .bool true]) (by simp [results, Tryz.results48, go_sem]) rfl ⟨rfl, is_ext _ _⟩
  · have hok : S.topOK id d = false := by simpa using hok
    rw [hok, if_neg (by decide)] at EV
    have hq : S.isFrame id = true → 0 ≤ d → d < (S.get id 2).n → False := by
      intro a b c
      rw [E.out, a, decide_eq_true ⟨b, c⟩] at hok; cases hok
    have HQ := Lib.hid hq
    have OK := Lib.hid hok
    clear hok E hb hq
    unfold val at *
    generalize S.isFrame id = fr at *
    go_enter Tryz.func48, Tryz.ntmps48
    go_wp2_with (first | (go_at_call 39; refine (C1.out _).mono ?_; rintro e w2 ⟨rfl, x2⟩; obtain ⟨y, rfl⟩ := x2) | (go_at_call 24; refine (C3.out _ _).mono ?_; rintro e w2 ⟨rfl, x2⟩; obtain ⟨y, rfl⟩ := x2))
    all_goals first
      | exact (HQ.out (by assumption) (by omega) (by omega)).elim
      | (rw [EV.out]
         try rw [OK.out]
         refine bodyPost_ret (v := .tuple #[.agg #[.bool false, .int .i64 0], .bool false]) (by simp [results, Tryz.results48, go_sem]) rfl ⟨rfl, is_ext _ _⟩)
set_option maxRecDepth 100000 in
set_option maxHeartbeats 2000000 in
theorem fpush (h : M w F m S) (hp : S.phase ≠ 1) (id : Int) (v : PV) : Calls Tryz.prog 44 #[.pointer (some ⟨m, 0, none⟩), .int .i64 id, val v] w fun e w' => e = .returned (.bool (S.pushOK id v)) ∧ M w' F m (S.push id v) ∧ Keep F w w' := by
  have C1 := Lib.hid (fun W [x : IsExt w W] => fis (h.ext x.out) id)
  have C3 := Lib.hid (fun W [x : IsExt w W] i => mget (h.ext x.out) id i)
  have C4 := Lib.hid (fun W [x : IsExt w W] j => mset (h.ext x.out) hp id j v)
  have C5 : Hid (∀ W, M W F m (S.push1 id v) → Calls Tryz.prog 29 #[.pointer (some ⟨m, 0, none⟩), .int .i64 id, .int .i64 2, val (num (S.sp id + 1))] W fun e w' => e = .returned (.bool ((S.push1 id v).setOK id 2 (num (S.sp id + 1)))) ∧ M w' F m ((S.push1 id v).set id 2 (num (S.sp id + 1))) ∧ Keep F W w') := Lib.hid (fun W hM => mset hM (by unfold MS.push1; rw [MS.set_phase]; exact hp) id 2 _)
  have E : Hid (S.pushOK id v = (S.isFrame id && (decide ((S.get id 2).n < 16) && (S.setOK id (6 + (S.get id 2).n) v && (S.push1 id v).setOK id 2 (num (S.sp id + 1)))))) := Lib.hid rfl
  have EV : Hid (S.push id v = if S.isFrame id && (decide ((S.get id 2).n < 16) && S.setOK id (6 + (S.get id 2).n) v) then (S.push1 id v).set id 2 (num (S.sp id + 1)) else S) := Lib.hid rfl
  have E1 : Hid (S.set id (6 + (S.get id 2).n) v = S.push1 id v) := Lib.hid rfl
  have E2 : Hid (S.setOK id (6 + (S.get id 2).n) v = false → S.push1 id v = S) := Lib.hid (fun hf => by show S.set id (6 + (S.get id 2).n) v = S; unfold MS.set; rw [hf]; rfl)
  have hb : S.isFrame id = true → 0 ≤ (S.get id 2).n ∧ (S.get id 2).n ≤ 16 := @MS.sp_bd S id
  have HH := Lib.hid h
  clear h
  have hspe : S.sp id = (S.get id 2).n := rfl
  rw [hspe] at C5 E EV
  clear hspe
  unfold val num at *
  generalize S.pushOK id v = res at *
  generalize S.push id v = P at *
  obtain ⟨o, n⟩ := v
  by_cases hq : S.isFrame id = true ∧ (S.get id 2).n < 16
  · obtain ⟨hf, h16⟩ := hq
    obtain ⟨b0, b1⟩ := hb hf
    rw [hf] at C1 E EV
    rw [decide_eq_true h16] at E EV
    clear hb hf
    go_enter Tryz.func44, Tryz.ntmps44
    go_wp2_with (first | (go_at_call 39; refine (C1.out _).mono ?_; rintro e w2 ⟨rfl, x2⟩; obtain ⟨y, rfl⟩ := x2) | (go_at_call 24; refine (C3.out _ _).mono ?_; rintro e w2 ⟨rfl, x2⟩; obtain ⟨y, rfl⟩ := x2))
    refine (C4.out _ _).mono ?_
    rintro e w2 ⟨rfl, m2, k2⟩
    have K2 := Lib.hid ((Keep.of_ext (is_ext w _) F).trans k2)
    rw [E1.out] at m2
    have M2 := Lib.hid m2
    clear m2 k2 C4 C1 C3
    cases hk : S.setOK id (6 + (S.get id 2).n) ⟨o, n⟩
    · rw [hk] at E EV
      have e2 := E2.out hk
      clear hk
      go_wp2_with fail
      go_ret
      exact ⟨ret_bool (by rw [E.out]; rfl), by rw [EV.out]; have := M2.out; rw [e2] at this; exact this, K2.out⟩
    · rw [hk] at E EV
      clear hk E2
      go_wp2_with fail
      refine (C5.out _ M2.out).mono ?_
      rintro e w3 ⟨rfl, m3, k3⟩
      have K3 := Lib.hid (K2.out.trans k3)
      have M3 := Lib.hid m3
      clear m3 k3
      go_wp2_with fail
      go_ret
      exact ⟨ret_bool (by rw [E.out]; rfl), by rw [EV.out]; exact M3.out, K3.out⟩
  · have EF : Hid (S.isFrame id = true → ¬ (S.get id 2).n < 16) := Lib.hid (fun a b => hq ⟨a, b⟩)
    have EP : P = S := by
      rw [EV.out, if_neg]
      intro hh
      simp only [Bool.and_eq_true, decide_eq_true_eq] at hh
      exact hq ⟨hh.1, hh.2.1⟩
    have ER : res = false := by
      rw [E.out]
      cases hf : S.isFrame id
      · rfl
      · rw [decide_eq_false (EF.out hf)]; rfl
    subst EP ER
    clear hq hb E EV C4 C5 E1 E2
    generalize P.isFrame id = fr at *
    go_enter Tryz.func44, Tryz.ntmps44
    go_wp2_with (first | (go_at_call 39; refine (C1.out _).mono ?_; rintro e w2 ⟨rfl, x2⟩; obtain ⟨y, rfl⟩ := x2) | (go_at_call 24; refine (C3.out _ _).mono ?_; rintro e w2 ⟨rfl, x2⟩; obtain ⟨y, rfl⟩ := x2))
    all_goals first
      | (exfalso; have := EF.out (by assumption); omega)
      | (go_ret
         exact ⟨ret_bool rfl, HH.out.ext (is_ext _ _), Keep.of_ext (is_ext _ _) _⟩)
end
end Go.Proofs.YtnhijjcplnomgaaGreat.World
