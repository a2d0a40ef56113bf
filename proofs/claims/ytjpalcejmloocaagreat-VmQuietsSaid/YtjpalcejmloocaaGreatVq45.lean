/-
  RefLive, RefClass, as one text (a claim has at most 60 files).
-/
import Derived.Test.YtjpalcejmloocaaGreatVq16
import Derived.Test.YtjpalcejmloocaaGreatVq22
import Derived.Deep.DeepCutAuto
namespace Go.Proofs.YtjpalcejmloocaaGreat.World
open Go.RowKit Go.Proofs.YtjpalcejmloocaaGreat.Plain
set_option linter.unusedVariables false
attribute [local go_sem ↓] Go.wp_at_zero Go.wp_at_succ
section
variable {w : World} {x : WV} {W : PW}
set_option maxRecDepth 100000 in
set_option maxHeartbeats 1000000 in
theorem rlive (h : WorldAt w x W) (at_ : Int) : Calls Tryz.prog 104 #[.agg (cellsW W x), .int .i64 at_] w fun e w' => e = .returned (.bool (liveB W at_)) ∧ Ext w w' := by
  obtain ⟨vL, fs, vD, vRe, vWa, vDu, vSn⟩ := x
  obtain ⟨AL, cL, e1, l1, l2⟩ := h.L.row.form
  obtain ⟨AD, cD, e2, l3, l4⟩ := Row.form h.dead
  have e1 : vL = .slice AL W.L.length cL := e1
  have e2 : vD = .slice AD W.dead.length cD := e2
  subst e1 e2
  have HD : BoolsAt w (.slice AD W.dead.length cD) W.dead := h.dead
  have E : Hid (liveB W at_ = (decide (0 ≤ at_ ∧ at_ < W.L.length) && !(W.dead.getD at_.toNat false))) := rfl
  unfold cellsW
  by_cases h1 : 0 ≤ at_
  · by_cases h2 : at_ < (W.L.length : Int)
    · obtain ⟨k, rfl⟩ := Int.eq_ofNat_of_zero_le h1
      rw [decide_eq_true ⟨h1, h2⟩, Int.toNat_natCast] at E
      by_cases h3 : W.dead.length ≤ k
      · have e3 : Hid (W.dead.getD k false = false) := Lib.hid (by rw [List.getD_eq_getElem?_getD, List.getElem?_eq_none h3]; rfl)
        have d3 : ((W.dead.length : Int) ≤ (k : Int)) := by omega
        clear h HD h3
        generalize W.L.length = n at *
        generalize W.dead.length = m at *
        go_enter Tryz.func104, Tryz.ntmps104
        go_wp2
        go_ret
        exact ⟨ret_bool (by rw [E.out, e3.out]; rfl), (Ext.refl _).alloc _⟩
      · obtain ⟨b, off, rfl, hb, hc⟩ := Row.at_ HD k (by omega)
        have c1 := hc 0 (by omega)
        have c1 : w.cell? ⟨b, off + k, none⟩ = some (.bool (W.dead.getD k false)) := by simpa using c1
        have h4 : (k : Int) < (W.dead.length : Int) := by omega
        clear h HD h3 hc
        generalize W.L.length = n at *
        generalize W.dead.length = m at *
        generalize W.dead.getD k false = q at *
        go_enter Tryz.func104, Tryz.ntmps104
        go_wp2
        go_ret
        exact ⟨ret_bool (by rw [E.out, decide_eq_false (by omega), Bool.false_or, Bool.true_and]), (Ext.refl _).alloc _⟩
    · have E2 : Hid (liveB W at_ = false) := Lib.hid (by rw [E.out, decide_eq_false (by omega), Bool.false_and])
      have d1 : decide (at_ < (W.L.length : Int)) = false := decide_eq_false h2
      clear h HD E
      generalize W.L.length = n at *
      go_enter Tryz.func104, Tryz.ntmps104
      go_wp2
      go_ret
      exact ⟨ret_bool (by rw [E2.out]), (Ext.refl _).alloc _⟩
  · have E2 : Hid (liveB W at_ = false) := Lib.hid (by rw [E.out, decide_eq_false (by omega), Bool.false_and])
    have d1 : decide (0 ≤ at_) = false := decide_eq_false h1
    clear h HD E
    go_enter Tryz.func104, Tryz.ntmps104
    go_wp2
    go_ret
    exact ⟨ret_bool (by rw [E2.out]), (Ext.refl _).alloc _⟩
set_option maxRecDepth 100000 in
set_option maxHeartbeats 1000000 in
theorem rnum (v : PV) (lo hi : Int) : Calls Tryz.prog 128 #[.agg #[.bool v.obj, .int .i64 v.n], .int .i64 lo, .int .i64 hi] w fun e w' => e = .returned (.bool (numB v lo hi)) ∧ Ext w w' := by
  obtain ⟨o, n⟩ := v
  show Calls _ _ _ _ fun e w' => e = .returned (.bool (!o && decide (lo ≤ n ∧ n ≤ hi))) ∧ Ext w w'
  by_cases h1 : lo ≤ n
  · by_cases h2 : n ≤ hi
    · rw [decide_eq_true ⟨h1, h2⟩]
      cases o <;>
      · go_enter Tryz.func128, Tryz.ntmps128
        go_wp2
        go_ret
        exact ⟨ret_bool (by simp), (Ext.refl _).alloc _⟩
    · rw [decide_eq_false (fun c => h2 c.2)]
      cases o <;>
      · go_enter Tryz.func128, Tryz.ntmps128
        go_wp2
        go_ret
        exact ⟨ret_bool (by simp <;> omega), (Ext.refl _).alloc _⟩
  · rw [decide_eq_false (fun c => h1 c.1)]
    cases o <;>
    · go_enter Tryz.func128, Tryz.ntmps128
      go_wp2
      go_ret
      exact ⟨ret_bool (by simp <;> omega), (Ext.refl _).alloc _⟩
end
end Go.Proofs.YtjpalcejmloocaaGreat.World
namespace Go.Proofs.YtjpalcejmloocaaGreat.World
open Go.RowKit Go.Proofs.YtjpalcejmloocaaGreat.Plain
set_option linter.unusedVariables false
attribute [local go_sem ↓] Go.wp_at_zero Go.wp_at_succ
def classB (W : PW) (id : Int) : Bool := liveB W id && isClsB (tAt W.L id.toNat)
/-- a field that may be -/
def valB (W : PW) (live : Bool) (v : PV) : Bool := if v.obj then decide (0 ≤ v.n ∧ v.n < W.L.length) && (!live || liveB W v.n) else fitsB v.n
section
variable {w : World} {x : WV} {W : PW}
set_option maxRecDepth 100000 in
set_option maxHeartbeats 2000000 in
theorem rclass (h : WorldAt w x W) (id : Int) : Calls Tryz.prog 105 #[.agg (cellsW W x), .int .i64 id] w fun e w' => e = .returned (.bool (classB W id)) ∧ Ext w w' := by
  have CL := Lib.hid (fun W2 (y : Ext w W2) => rlive (h.ext y) id)
  have E : Hid (classB W id = (liveB W id && isClsB (tAt W.L id.toNat))) := rfl
  obtain ⟨vL, fs, vD, vRe, vWa, vDu, vSn⟩ := x
  obtain ⟨AL, cL, e1, l1, l2⟩ := h.L.row.form
  have e1 : vL = .slice AL W.L.length cL := e1
  subst e1
  have HC := Lib.hid (fun (j : Nat) (hj : j < W.L.length) => h.L.cells rfl j hj)
  have HF := Lib.hid (fun (j : Nat) (hj : j < W.L.length) => h.L.flds j hj)
  unfold cellsW at CL ⊢
  clear h
  cases hl : liveB W id with
  | false =>
    rw [hl] at CL E
    clear hl
    go_enter Tryz.func105, Tryz.ntmps105
    go_wp2_with fail
    refine (CL.out _ ((Ext.refl _).alloc _)).mono ?_
    rintro e w2 ⟨rfl, x2⟩
    have X2 := Lib.hid (((Ext.refl w).alloc _).trans x2)
    clear x2
    go_wp2_with fail
    go_ret
    exact ⟨ret_bool (by rw [E.out]; rfl), X2.out⟩
  | true =>
    have hr : 0 ≤ id ∧ id < W.L.length := by
      unfold liveB at hl
      rw [Bool.and_eq_true] at hl
      exact of_decide_eq_true hl.1
    rw [hl, Bool.true_and] at E
    rw [hl] at CL
    clear hl
    obtain ⟨hr1, hr2⟩ := hr
    obtain ⟨k, rfl⟩ := Int.eq_ofNat_of_zero_le hr1
    rw [Int.toNat_natCast] at E
    have hk : k < W.L.length := by omega
    obtain ⟨b, off, rfl, hb, d0, d1, d2, d3, d4, d5⟩ := HC.out k hk
    replace d4 : w.cell? ⟨b, off + k * 6 + 4, none⟩ = some (fs k) := d4
    have vf := HF.out k hk
    have E5 : Hid (isClsB (tAt W.L k) = (decide ((tAt W.L k).fmt = 1) && (decide (5 ≤ (tAt W.L k).F.length) && (numB (vAt (tAt W.L k).F 3) 0 60 && numB (vAt (tAt W.L k).F 4) 1 3)))) := rfl
    generalize tAt W.L k = t at *
    obtain ⟨AF, cF, ef, f1, f2⟩ := Row.form vf
    replace ef : fs k = .slice AF t.F.length cF := ef
    replace vf : ValsAt w (fs k) t.F := vf
    rw [ef] at d4 vf
    have VF := Lib.hid vf
    clear vf ef HC HF
    generalize W.L.length = n at *
    go_enter Tryz.func105, Tryz.ntmps105
    go_upto_region 1 with (fail)
    refine wp_name (fun W1 hW => ?_)
    have X1 := (Ext.refl w).alloc' hW
    have B1 := Blk.new' hW
    clear hW
    obtain ⟨r1, r2, r3⟩ := B1.rules
    replace d1 := (X1.below.cell (p := ⟨b, off + k * 6 + 1, none⟩) hb).trans d1
    replace d4 := (X1.below.cell (p := ⟨b, off + k * 6 + 4, none⟩) hb).trans d4
    have hb1 := Nat.lt_of_lt_of_le hb X1.below.size
    have XH := Lib.hid X1
    have VX := Lib.hid (VF.out.ext X1)
    clear X1 B1 VF d0 d2 d3 d5 hb
    generalize w.heap.size = q at *
    by_cases q1 : t.fmt = 1
    · rw [q1] at d1
      rw [decide_eq_true q1, Bool.true_and] at E5
      by_cases q5 : 5 ≤ t.F.length
      · rw [decide_eq_true q5, Bool.true_and] at E5
        obtain ⟨b3, o3, e3, hb3, hc3⟩ := Row.at_ VX.out 3 (by omega)
        obtain ⟨b4, o4, e4, hb4, hc4⟩ := Row.at_ VX.out 4 (by omega)
        subst e3
        injection e4 with e4
        injection e4 with e41 e42
        subst e41 e42
        have c30 : W1.cell? ⟨b3, o3 + 6, none⟩ = some (.bool (vAt t.F 3).obj) := hc3 0 (by omega)
        have c31 : W1.cell? ⟨b3, o3 + 6 + 1, none⟩ = some (.int .i64 (vAt t.F 3).n) := hc3 1 (by omega)
        have c40 : W1.cell? ⟨b3, o3 + 8, none⟩ = some (.bool (vAt t.F 4).obj) := hc4 0 (by omega)
        have c41 : W1.cell? ⟨b3, o3 + 8 + 1, none⟩ = some (.int .i64 (vAt t.F 4).n) := hc4 1 (by omega)
        have l5 : (5 : Int) ≤ (t.F.length : Int) := by omega
        have l3 : (3 : Int) < (t.F.length : Int) := by omega
        have l4 : (4 : Int) < (t.F.length : Int) := by omega
        have CN3 := Lib.hid (fun W2 => rnum (w := W2) (vAt t.F 3) 0 60)
        have CN4 := Lib.hid (fun W2 => rnum (w := W2) (vAt t.F 4) 1 3)
        clear hc3 hc4 q1 q5
        generalize vAt t.F 3 = v3 at *
        generalize vAt t.F 4 = v4 at *
        generalize numB v3 0 60 = n3 at *
        generalize numB v4 1 3 = n4 at *
        cases n3 with
        | false =>
          go_wp2_with fail
          refine (CL.out _ (XH.out.trans (is_ext _ _))).mono ?_
          rintro e w2 ⟨rfl, x2⟩; obtain ⟨y, rfl⟩ := x2; try rw [ext_ext]
          go_wp2_with fail
          refine (CN3.out _).mono ?_
          rintro e w2 ⟨rfl, x2⟩; obtain ⟨y, rfl⟩ := x2; try rw [ext_ext]
          go_wp2_with fail
          go_ret
          exact ⟨ret_bool (by rw [E.out, E5.out]; simp), XH.out.trans (is_ext _ _)⟩
        | true =>
          go_wp2_with fail
          refine (CL.out _ (XH.out.trans (is_ext _ _))).mono ?_
          rintro e w2 ⟨rfl, x2⟩; obtain ⟨y, rfl⟩ := x2; try rw [ext_ext]
          go_wp2_with fail
          refine (CN3.out _).mono ?_
          rintro e w2 ⟨rfl, x2⟩; obtain ⟨y, rfl⟩ := x2; try rw [ext_ext]
          go_wp2_with fail
          refine (CN4.out _).mono ?_
          rintro e w2 ⟨rfl, x2⟩; obtain ⟨y, rfl⟩ := x2; try rw [ext_ext]
          go_wp2_with fail
          go_ret
          exact ⟨ret_bool (by rw [E.out, E5.out]; simp), XH.out.trans (is_ext _ _)⟩
      · rw [decide_eq_false q5, Bool.false_and] at E5
        have l5 : (t.F.length : Int) < 5 := by omega
        clear q1 q5
        go_wp2_with fail
        refine (CL.out _ (XH.out.trans (is_ext _ _))).mono ?_
        rintro e w2 ⟨rfl, x2⟩; obtain ⟨y, rfl⟩ := x2; try rw [ext_ext]
        go_wp2_with fail
        go_ret
        exact ⟨ret_bool (by rw [E.out, E5.out]), XH.out.trans (is_ext _ _)⟩
    · rw [decide_eq_false q1, Bool.false_and] at E5
      have l1 : (t.fmt == 1) = false := beq_eq_false_iff_ne.2 q1
      clear q1
      go_wp2_with fail
      refine (CL.out _ (XH.out.trans (is_ext _ _))).mono ?_
      rintro e w2 ⟨rfl, x2⟩; obtain ⟨y, rfl⟩ := x2; try rw [ext_ext]
      go_wp2_with fail
      go_ret
      exact ⟨ret_bool (by rw [E.out, E5.out]), XH.out.trans (is_ext _ _)⟩
set_option maxRecDepth 100000 in
set_option maxHeartbeats 2000000 in
theorem rval (h : WorldAt w x W) (v : PV) (live : Bool) : Calls Tryz.prog 106 #[.agg (cellsW W x), .agg #[.bool v.obj, .int .i64 v.n], .bool live] w fun e w' => e = .returned (.bool (valB W live v)) ∧ Ext w w' := by
  obtain ⟨o, a⟩ := v
  have CL := Lib.hid (fun W2 (y : Ext w W2) => rlive (h.ext y) a)
  have CF := Lib.hid (fun W2 => Word.rfits a W2)
  have E : Hid (valB W live ⟨o, a⟩ = if o then decide (0 ≤ a ∧ a < W.L.length) && (!live || liveB W a) else fitsB a) := rfl
  obtain ⟨vL, fs, vD, vRe, vWa, vDu, vSn⟩ := x
  obtain ⟨AL, cL, e1, l1, l2⟩ := h.L.row.form
  have e1 : vL = .slice AL W.L.length cL := e1
  subst e1
  unfold cellsW at CL ⊢
  clear h
  generalize W.L.length = n at *
  generalize fitsB a = fa at *
  cases o with
  | false =>
    go_enter Tryz.func106, Tryz.ntmps106
    go_wp2_with fail
    refine (CF.out _).mono ?_
    rintro e w2 ⟨rfl, rfl⟩
    go_wp2_with fail
    go_ret
    exact ⟨ret_bool (by rw [E.out]; rfl), is_ext _ _⟩
  | true =>
    by_cases h1 : 0 ≤ a
    · by_cases h2 : a < (n : Int)
      · rw [decide_eq_true ⟨h1, h2⟩] at E
        generalize liveB W a = la at *
        cases live with
        | false =>
          go_enter Tryz.func106, Tryz.ntmps106
          go_wp2_with fail
          go_ret
          exact ⟨ret_bool (by rw [E.out]; rfl), is_ext _ _⟩
        | true =>
          go_enter Tryz.func106, Tryz.ntmps106
          go_wp2_with fail
          refine (CL.out _ (is_ext _ _)).mono ?_
          rintro e w2 ⟨rfl, x2⟩
          have X2 := Lib.hid ((is_ext w _).trans x2)
          clear x2
          go_wp2_with fail
          go_ret
          exact ⟨ret_bool (by rw [E.out]; simp), X2.out⟩
      · rw [decide_eq_false (fun c => h2 c.2)] at E
        have h2' : (n : Int) ≤ a := by omega
        clear h2
        go_enter Tryz.func106, Tryz.ntmps106
        go_wp2_with fail
        go_ret
        exact ⟨ret_bool (by rw [E.out]; simp), is_ext _ _⟩
    · rw [decide_eq_false (fun c => h1 c.1)] at E
      have h1' : a < 0 := by omega
      clear h1
      go_enter Tryz.func106, Tryz.ntmps106
      go_wp2_with fail
      go_ret
      exact ⟨ret_bool (by rw [E.out]; simp), is_ext _ _⟩
end
end Go.Proofs.YtjpalcejmloocaaGreat.World
