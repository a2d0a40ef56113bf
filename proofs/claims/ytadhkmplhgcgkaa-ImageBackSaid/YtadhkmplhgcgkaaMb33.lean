/-
  Awake8, RefLive, RefClass, as one text (a claim has at most 60 files).
-/
import Derived.Test.YtadhkmplhgcgkaaMb23
import Derived.Test.YtadhkmplhgcgkaaMb32
import Derived.Deep.RegionHeld3
import Derived.Test.YtadhkmplhgcgkaaMb04
import Derived.Test.YtadhkmplhgcgkaaMb10
import Derived.Deep.DeepCutAuto
namespace Go.Proofs.Ytadhkmplhgcgkaa.World
open Go.RowKit Go.Proofs.Ytadhkmplhgcgkaa.Plain
set_option linter.unusedVariables false
attribute [local go_sem ↓] Go.wp_at_zero Go.wp_at_succ
theorem rch_lt {W : PW} {weak : Bool} (h : checkB W = true) {i : Nat} (hr : Rch (nxW W weak) (rootsOf W.R) i) : i < W.L.length := by
  induction hr with
  | root hm => have := roots_in h _ hm; omega
  | step _ hj ih => have := nexts_in h ih _ hj; omega
theorem rch_all {W : PW} {weak : Bool} (h : checkB W = true) (ha : ∀ i, i < W.L.length → Rch (nxW W weak) (rootsOf W.R) i) {l : List Bool} (hl : RchL W.L.length (nxW W weak) (rootsOf W.R) l) : l = List.replicate W.L.length true := by
  refine hl.uniq ⟨by simp, fun i => ⟨fun hs => ha i ?_, fun hr => ?_⟩⟩
  · have := sB_lt hs; simpa using this
  · have := rch_lt h hr
    unfold sB
    rw [List.getD_eq_getElem?_getD, List.getElem?_replicate, if_pos this]; rfl
theorem rch_root {W : PW} {weak : Bool} {i : Nat} (hi : i < 23) : Rch (nxW W weak) (rootsOf W.R) i := by
  have : (i : Int) ∈ rootsOf W.R := by
    unfold rootsOf upTo
    exact List.mem_append.2 (.inl (List.mem_map.2 ⟨i, List.mem_range.2 hi, rfl⟩))
  have q := Rch.root (nx := nxW W weak) this
  simpa using q
def l23 : List Bool := List.replicate 23 true
theorem first_rch {weak : Bool} {l : List Bool} (hl : RchL firstW.L.length (nxW firstW weak) (rootsOf firstW.R) l) : l = l23 :=
  rch_all first_check (fun i hi => rch_root (by have e : firstW.L.length = 23 := firstL_len 23; omega)) hl
def C1 : PW := canonW firstW l23
theorem c1_check : checkB C1 = true := by decide +kernel
theorem c1_len : C1.L.length = 23 := by decide +kernel
theorem c1_rch {weak : Bool} {l : List Bool} (hl : RchL C1.L.length (nxW C1 weak) (rootsOf C1.R) l) : l = l23 := by
  have q := rch_all c1_check (fun i hi => rch_root (by rw [c1_len] at hi; exact hi)) hl
  rw [c1_len] at q; exact q
theorem c1_same : eqW C1 (canonW C1 l23) = true := by decide +kernel
theorem first_roots : rootsOf firstW.R = upTo 23 := by decide +kernel
theorem cells_first (A1 : Option Addr) (k1 : Nat) (fs : Nat → Value) : cellsW firstW ⟨.slice A1 23 k1, fs, .slice none 0 0, .slice none 0 0, .slice none 0 0, .slice none 0 0, .slice none 0 0⟩ = #[.slice A1 23 k1, .slice none 0 0, .int .i64 23, .int .i64 0, .int .i64 0, .slice none 0 0, .slice none 0 0, .slice none 0 0, .string ByteArray.empty, .string ByteArray.empty, .int .i64 0, .int .i64 0, .slice none 0 0] := rfl
set_option maxRecDepth 100000 in
set_option maxHeartbeats 4000000 in
theorem awake8 (w : World) : Calls Try.prog 16 #[] w fun e w' => e = .returned (.bool true) ∧ Ext w w' := by
  go_enter Try.func16, Try.ntmps16
  go_wp2_with fail
  refine (first_ _).mono ?_
  rintro e w0 ⟨x, rfl, hb, x0⟩
  obtain ⟨vL, fs, vD, vRe, vWa, vDu, vSn⟩ := x
  have WA := hb.at_ (nums_of_check first_check)
  obtain ⟨h1, h2, h3, h4, h5⟩ := hb.bare
  simp only at h1 h2 h3 h4 h5
  subst h1 h2 h3 h4 h5
  obtain ⟨A1, k1, hA⟩ := hb.L.form
  have hA : vL = .slice A1 23 k1 := hA
  subst hA
  have X0 := Lib.hid x0
  have W0 := Lib.hid WA
  clear hb WA x0
  rw [cells_first]
  go_upto_region 2 with (fail)
  refine wp_name (fun w1 hW => ?_)
  have b1 : Blk w1 w0.heap.size 31 #[.slice A1 23 k1, .slice none 0 0, .int .i64 23, .int .i64 0, .int .i64 0, .slice none 0 0, .slice none 0 0, .slice none 0 0, .string ByteArray.empty, .string ByteArray.empty, .int .i64 0, .int .i64 0, .slice none 0 0] := Blk.new' hW
  have x1 : Ext w0 w1 := (Ext.refl _).alloc' hW
  clear hW
  have X1 := Lib.hid (X0.out.trans x1)
  have W1 := Lib.hid (W0.out.ext x1)
  obtain ⟨r1, r2, r3⟩ := b1.rules
  have B1 := Lib.hid b1
  generalize w0.heap.size = g at *
  have q0 : w1.cell? ⟨g, 0, none⟩ = some (.slice A1 23 k1) := r1 0
  have q1 : w1.cell? ⟨g, 1, none⟩ = some (.slice none 0 0) := r1 1
  have q2 : w1.cell? ⟨g, 2, none⟩ = some (.int .i64 23) := r1 2
  have q3 : w1.cell? ⟨g, 3, none⟩ = some (.int .i64 0) := r1 3
  have q4 : w1.cell? ⟨g, 4, none⟩ = some (.int .i64 0) := r1 4
  have q5 : w1.cell? ⟨g, 5, none⟩ = some (.slice none 0 0) := r1 5
  have q6 : w1.cell? ⟨g, 6, none⟩ = some (.slice none 0 0) := r1 6
  have q7 : w1.cell? ⟨g, 7, none⟩ = some (.slice none 0 0) := r1 7
  have q8 : w1.cell? ⟨g, 8, none⟩ = some (.string ByteArray.empty) := r1 8
  have q9 : w1.cell? ⟨g, 9, none⟩ = some (.string ByteArray.empty) := r1 9
  have q10 : w1.cell? ⟨g, 10, none⟩ = some (.int .i64 0) := r1 10
  have q11 : w1.cell? ⟨g, 11, none⟩ = some (.int .i64 0) := r1 11
  have q12 : w1.cell? ⟨g, 12, none⟩ = some (.slice none 0 0) := r1 12
  have CR := Lib.hid (fun W2 (y : Ext w1 W2) => Roots_ (W1.out.ext y) (fun _ => by decide +kernel))
  have CC := Lib.hid (fun W2 (y : Ext w1 W2) => canonP (W1.out.ext y) first_check)
  have CS := Lib.hid (fun W2 (y : Ext w1 W2) => strong_ (W1.out.ext y))
  have CM := Lib.hid (fun W2 (y : Ext w1 W2) v (hv : WorldAt W2 v C1) => same_ (W1.out.ext y) hv)
  rw [cells_first] at CR CC CS CM
  clear x1 W0 b1
  go_region_with ((first | (go_at_call 25; refine (CR.out _ (is_ext w1 _)).mono ?_; rintro e w2 ⟨v, rfl, o2, x2⟩; rw [if_pos first_check, first_roots] at o2; obtain ⟨A2, k2, e2⟩ := o2.own.form; have e2 : v = .slice A2 23 k2 := e2; subst e2; have i2 : IsExt w1 w2 := ⟨(is_ext w1 _).trans x2⟩; obtain ⟨u1, u2, u3⟩ := (B1.out.ext i2.out).rules; clear o2 x2) | (go_at_call 14; refine (CC.out _ (is_ext w1 _)).mono ?_; rintro e w2 ⟨cs, rfl, hcs, x2⟩; obtain ⟨l, xc, rl, rfl, nc⟩ := hcs; obtain rfl := first_rch rl; rw [show canonW firstW l23 = C1 from rfl]; have NC : Hid (WorldAt w2 xc C1) := Lib.hid nc.at_; have i2 : IsExt w1 w2 := ⟨(is_ext w1 _).trans x2⟩; obtain ⟨u1, u2, u3⟩ := (B1.out.ext i2.out).rules; clear nc rl x2) | (go_at_call 26; refine (CM.out _ (is_ext w1 _) _ (NC.out.ext (is_ext _ _))).mono ?_; rintro e w2 ⟨r, rfl, _, _, hy, x2⟩; obtain ⟨la, lb, ra, rb, hr⟩ := hy first_check c1_check; obtain rfl := first_rch ra; obtain rfl := c1_rch rb; obtain rfl : r = true := hr.trans c1_same; have i2 : IsExt w1 w2 := ⟨(is_ext w1 _).trans x2⟩; obtain ⟨u1, u2, u3⟩ := (B1.out.ext i2.out).rules; clear hy ra rb x2 hr) | (go_at_call 12; refine (CS.out _ (is_ext w1 _)).mono ?_; rintro e w2 ⟨v, rfl, hv, x2⟩; obtain ⟨l, g5, rfl, hl, b5, _⟩ := hv.yes first_check; obtain rfl := first_rch hl; rw [show firstW.L.length = 23 from firstL_len 23]; have i2 : IsExt w1 w2 := ⟨(is_ext w1 _).trans x2⟩; obtain ⟨u1, u2, u3⟩ := (B1.out.ext i2.out).rules; have c5 : w2.cell? ⟨g5, 5, none⟩ = some (.bool true) := b5.cell 5; have l5 := b5.lt; clear hl b5 hv x2)))
  all_goals
    go_wp2_with fail
    go_ret
    exact ⟨ret_bool rfl, X1.out.trans (is_ext w1 _)⟩
end Go.Proofs.Ytadhkmplhgcgkaa.World
namespace Go.Proofs.Ytadhkmplhgcgkaa.World
open Go.RowKit Go.Proofs.Ytadhkmplhgcgkaa.Plain
set_option linter.unusedVariables false
attribute [local go_sem ↓] Go.wp_at_zero Go.wp_at_succ
section
variable {w : World} {x : WV} {W : PW}
set_option maxRecDepth 100000 in
set_option maxHeartbeats 1000000 in
theorem rlive (h : WorldAt w x W) (at_ : Int) : Calls Try.prog 28 #[.agg (cellsW W x), .int .i64 at_] w fun e w' => e = .returned (.bool (liveB W at_)) ∧ Ext w w' := by
  obtain ⟨vL, fs, vD, vRe, vWa, vDu, vSn⟩ := x
  obtain ⟨AL, cL, e1, l1, l2⟩ := h.L.row.form
  obtain ⟨AD, cD, e2, l3, l4⟩ := Row.form h.dead
  have e1 : vL = .slice AL W.L.length cL := e1
  have e2 : vD = .slice AD W.dead.length cD := e2
  subst e1 e2
  have HD : BoolsAt w (.slice AD W.dead.length cD) W.dead := h.dead
  have E : Hid (liveB W at_ = (decide (0 ≤ at_ ∧ at_ < W.L.length) && !(W.dead.getD at_.toNat false))) := rfl
  unfold cellsW
  by_cases h1 : 0 ≤ at_
  · by_cases h2 : at_ < (W.L.length : Int)
    · obtain ⟨k, rfl⟩ := Int.eq_ofNat_of_zero_le h1
      rw [decide_eq_true ⟨h1, h2⟩, Int.toNat_natCast] at E
      by_cases h3 : W.dead.length ≤ k
      · have e3 : Hid (W.dead.getD k false = false) := Lib.hid (by rw [List.getD_eq_getElem?_getD, List.getElem?_eq_none h3]; rfl)
        have d3 : ((W.dead.length : Int) ≤ (k : Int)) := by omega
        clear h HD h3
        generalize W.L.length = n at *
        generalize W.dead.length = m at *
        go_enter Try.func28, Try.ntmps28
        go_wp2
        go_ret
        exact ⟨ret_bool (by rw [E.out, e3.out]; rfl), (Ext.refl _).alloc _⟩
      · obtain ⟨b, off, rfl, hb, hc⟩ := Row.at_ HD k (by omega)
        have c1 := hc 0 (by omega)
        have c1 : w.cell? ⟨b, off + k, none⟩ = some (.bool (W.dead.getD k false)) := by simpa using c1
        have h4 : (k : Int) < (W.dead.length : Int) := by omega
        clear h HD h3 hc
        generalize W.L.length = n at *
        generalize W.dead.length = m at *
        generalize W.dead.getD k false = q at *
        go_enter Try.func28, Try.ntmps28
        go_wp2
        go_ret
        exact ⟨ret_bool (by rw [E.out, decide_eq_false (by omega), Bool.false_or, Bool.true_and]), (Ext.refl _).alloc _⟩
    · have E2 : Hid (liveB W at_ = false) := Lib.hid (by rw [E.out, decide_eq_false (by omega), Bool.false_and])
      have d1 : decide (at_ < (W.L.length : Int)) = false := decide_eq_false h2
      clear h HD E
      generalize W.L.length = n at *
      go_enter Try.func28, Try.ntmps28
      go_wp2
      go_ret
      exact ⟨ret_bool (by rw [E2.out]), (Ext.refl _).alloc _⟩
  · have E2 : Hid (liveB W at_ = false) := Lib.hid (by rw [E.out, decide_eq_false (by omega), Bool.false_and])
    have d1 : decide (0 ≤ at_) = false := decide_eq_false h1
    clear h HD E
    go_enter Try.func28, Try.ntmps28
    go_wp2
    go_ret
    exact ⟨ret_bool (by rw [E2.out]), (Ext.refl _).alloc _⟩
set_option maxRecDepth 100000 in
set_option maxHeartbeats 1000000 in
theorem rnum (v : PV) (lo hi : Int) : Calls Try.prog 104 #[.agg #[.bool v.obj, .int .i64 v.n], .int .i64 lo, .int .i64 hi] w fun e w' => e = .returned (.bool (numB v lo hi)) ∧ Ext w w' := by
  obtain ⟨o, n⟩ := v
  show Calls _ _ _ _ fun e w' => e = .returned (.bool (!o && decide (lo ≤ n ∧ n ≤ hi))) ∧ Ext w w'
  by_cases h1 : lo ≤ n
  · by_cases h2 : n ≤ hi
    · rw [decide_eq_true ⟨h1, h2⟩]
      cases o <;>
      · go_enter Try.func104, Try.ntmps104
        go_wp2
        go_ret
        exact ⟨ret_bool (by simp), (Ext.refl _).alloc _⟩
    · rw [decide_eq_false (fun c => h2 c.2)]
      cases o <;>
      · go_enter Try.func104, Try.ntmps104
        go_wp2
        go_ret
        exact ⟨ret_bool (by simp <;> omega), (Ext.refl _).alloc _⟩
  · rw [decide_eq_false (fun c => h1 c.1)]
    cases o <;>
    · go_enter Try.func104, Try.ntmps104
      go_wp2
      go_ret
      exact ⟨ret_bool (by simp <;> omega), (Ext.refl _).alloc _⟩
end
end Go.Proofs.Ytadhkmplhgcgkaa.World
namespace Go.Proofs.Ytadhkmplhgcgkaa.World
open Go.RowKit Go.Proofs.Ytadhkmplhgcgkaa.Plain
set_option linter.unusedVariables false
attribute [local go_sem ↓] Go.wp_at_zero Go.wp_at_succ
def classB (W : PW) (id : Int) : Bool := liveB W id && isClsB (tAt W.L id.toNat)
/-- a field that may be -/
def valB (W : PW) (live : Bool) (v : PV) : Bool := if v.obj then decide (0 ≤ v.n ∧ v.n < W.L.length) && (!live || liveB W v.n) else fitsB v.n
section
variable {w : World} {x : WV} {W : PW}
set_option maxRecDepth 100000 in
set_option maxHeartbeats 2000000 in
theorem rclass (h : WorldAt w x W) (id : Int) : Calls Try.prog 79 #[.agg (cellsW W x), .int .i64 id] w fun e w' => e = .returned (.bool (classB W id)) ∧ Ext w w' := by
  have CL := Lib.hid (fun W2 (y : Ext w W2) => rlive (h.ext y) id)
  have E : Hid (classB W id = (liveB W id && isClsB (tAt W.L id.toNat))) := rfl
  obtain ⟨vL, fs, vD, vRe, vWa, vDu, vSn⟩ := x
  obtain ⟨AL, cL, e1, l1, l2⟩ := h.L.row.form
  have e1 : vL = .slice AL W.L.length cL := e1
  subst e1
  have HC := Lib.hid (fun (j : Nat) (hj : j < W.L.length) => h.L.cells rfl j hj)
  have HF := Lib.hid (fun (j : Nat) (hj : j < W.L.length) => h.L.flds j hj)
  unfold cellsW at CL ⊢
  clear h
  cases hl : liveB W id with
  | false =>
    rw [hl] at CL E
    clear hl
    go_enter Try.func79, Try.ntmps79
    go_wp2_with fail
    refine (CL.out _ ((Ext.refl _).alloc _)).mono ?_
    rintro e w2 ⟨rfl, x2⟩
    have X2 := Lib.hid (((Ext.refl w).alloc _).trans x2)
    clear x2
    go_wp2_with fail
    go_ret
    exact ⟨ret_bool (by rw [E.out]; rfl), X2.out⟩
  | true =>
    have hr : 0 ≤ id ∧ id < W.L.length := by
      unfold liveB at hl
      rw [Bool.and_eq_true] at hl
      exact of_decide_eq_true hl.1
    rw [hl, Bool.true_and] at E
    rw [hl] at CL
    clear hl
    obtain ⟨hr1, hr2⟩ := hr
    obtain ⟨k, rfl⟩ := Int.eq_ofNat_of_zero_le hr1
    rw [Int.toNat_natCast] at E
    have hk : k < W.L.length := by omega
    obtain ⟨b, off, rfl, hb, d0, d1, d2, d3, d4, d5⟩ := HC.out k hk
    replace d4 : w.cell? ⟨b, off + k * 6 + 4, none⟩ = some (fs k) := d4
    have vf := HF.out k hk
    have E5 : Hid (isClsB (tAt W.L k) = (decide ((tAt W.L k).fmt = 1) && (decide (5 ≤ (tAt W.L k).F.length) && (numB (vAt (tAt W.L k).F 3) 0 60 && numB (vAt (tAt W.L k).F 4) 1 3)))) := rfl
    generalize tAt W.L k = t at *
    obtain ⟨AF, cF, ef, f1, f2⟩ := Row.form vf
    replace ef : fs k = .slice AF t.F.length cF := ef
    replace vf : ValsAt w (fs k) t.F := vf
    rw [ef] at d4 vf
    have VF := Lib.hid vf
    clear vf ef HC HF
    generalize W.L.length = n at *
    go_enter Try.func79, Try.ntmps79
    go_upto_region 1 with (fail)
    refine wp_name (fun W1 hW => ?_)
    have X1 := (Ext.refl w).alloc' hW
    have B1 := Blk.new' hW
    clear hW
    obtain ⟨r1, r2, r3⟩ := B1.rules
    replace d1 := (X1.below.cell (p := ⟨b, off + k * 6 + 1, none⟩) hb).trans d1
    replace d4 := (X1.below.cell (p := ⟨b, off + k * 6 + 4, none⟩) hb).trans d4
    have hb1 := Nat.lt_of_lt_of_le hb X1.below.size
    have XH := Lib.hid X1
    have VX := Lib.hid (VF.out.ext X1)
    clear X1 B1 VF d0 d2 d3 d5 hb
    generalize w.heap.size = q at *
    by_cases q1 : t.fmt = 1
    · rw [q1] at d1
      rw [decide_eq_true q1, Bool.true_and] at E5
      by_cases q5 : 5 ≤ t.F.length
      · rw [decide_eq_true q5, Bool.true_and] at E5
        obtain ⟨b3, o3, e3, hb3, hc3⟩ := Row.at_ VX.out 3 (by omega)
        obtain ⟨b4, o4, e4, hb4, hc4⟩ := Row.at_ VX.out 4 (by omega)
        subst e3
        injection e4 with e4
        injection e4 with e41 e42
        subst e41 e42
        have c30 : W1.cell? ⟨b3, o3 + 6, none⟩ = some (.bool (vAt t.F 3).obj) := hc3 0 (by omega)
        have c31 : W1.cell? ⟨b3, o3 + 6 + 1, none⟩ = some (.int .i64 (vAt t.F 3).n) := hc3 1 (by omega)
        have c40 : W1.cell? ⟨b3, o3 + 8, none⟩ = some (.bool (vAt t.F 4).obj) := hc4 0 (by omega)
        have c41 : W1.cell? ⟨b3, o3 + 8 + 1, none⟩ = some (.int .i64 (vAt t.F 4).n) := hc4 1 (by omega)
        have l5 : (5 : Int) ≤ (t.F.length : Int) := by omega
        have l3 : (3 : Int) < (t.F.length : Int) := by omega
        have l4 : (4 : Int) < (t.F.length : Int) := by omega
        have CN3 := Lib.hid (fun W2 => rnum (w := W2) (vAt t.F 3) 0 60)
        have CN4 := Lib.hid (fun W2 => rnum (w := W2) (vAt t.F 4) 1 3)
        clear hc3 hc4 q1 q5
        generalize vAt t.F 3 = v3 at *
        generalize vAt t.F 4 = v4 at *
        generalize numB v3 0 60 = n3 at *
        generalize numB v4 1 3 = n4 at *
        cases n3 with
        | false =>
          go_wp2_with fail
          refine (CL.out _ (XH.out.trans (is_ext _ _))).mono ?_
          rintro e w2 ⟨rfl, x2⟩; obtain ⟨y, rfl⟩ := x2; try rw [ext_ext]
          go_wp2_with fail
          refine (CN3.out _).mono ?_
          rintro e w2 ⟨rfl, x2⟩; obtain ⟨y, rfl⟩ := x2; try rw [ext_ext]
          go_wp2_with fail
          go_ret
          exact ⟨ret_bool (by rw [E.out, E5.out]; simp), XH.out.trans (is_ext _ _)⟩
        | true =>
          go_wp2_with fail
          refine (CL.out _ (XH.out.trans (is_ext _ _))).mono ?_
          rintro e w2 ⟨rfl, x2⟩; obtain ⟨y, rfl⟩ := x2; try rw [ext_ext]
          go_wp2_with fail
          refine (CN3.out _).mono ?_
          rintro e w2 ⟨rfl, x2⟩; obtain ⟨y, rfl⟩ := x2; try rw [ext_ext]
          go_wp2_with fail
          refine (CN4.out _).mono ?_
          rintro e w2 ⟨rfl, x2⟩; obtain ⟨y, rfl⟩ := x2; try rw [ext_ext]
          go_wp2_with fail
          go_ret
          exact ⟨ret_bool (by rw [E.out, E5.out]; simp), XH.out.trans (is_ext _ _)⟩
      · rw [decide_eq_false q5, Bool.false_and] at E5
        have l5 : (t.F.length : Int) < 5 := by omega
        clear q1 q5
        go_wp2_with fail
        refine (CL.out _ (XH.out.trans (is_ext _ _))).mono ?_
        rintro e w2 ⟨rfl, x2⟩; obtain ⟨y, rfl⟩ := x2; try rw [ext_ext]
        go_wp2_with fail
        go_ret
        exact ⟨ret_bool (by rw [E.out, E5.out]), XH.out.trans (is_ext _ _)⟩
    · rw [decide_eq_false q1, Bool.false_and] at E5
      have l1 : (t.fmt == 1) = false := beq_eq_false_iff_ne.2 q1
      clear q1
      go_wp2_with fail
      refine (CL.out _ (XH.out.trans (is_ext _ _))).mono ?_
      rintro e w2 ⟨rfl, x2⟩; obtain ⟨y, rfl⟩ := x2; try rw [ext_ext]
      go_wp2_with fail
      go_ret
      exact ⟨ret_bool (by rw [E.out, E5.out]), XH.out.trans (is_ext _ _)⟩
set_option maxRecDepth 100000 in
set_option maxHeartbeats 2000000 in
theorem rval (h : WorldAt w x W) (v : PV) (live : Bool) : Calls Try.prog 80 #[.agg (cellsW W x), .agg #[.bool v.obj, .int .i64 v.n], .bool live] w fun e w' => e = .returned (.bool (valB W live v)) ∧ Ext w w' := by
  obtain ⟨o, a⟩ := v
  have CL := Lib.hid (fun W2 (y : Ext w W2) => rlive (h.ext y) a)
  have CF := Lib.hid (fun W2 => Word.rfits a W2)
  have E : Hid (valB W live ⟨o, a⟩ = if o then decide (0 ≤ a ∧ a < W.L.length) && (!live || liveB W a) else fitsB a) := rfl
  obtain ⟨vL, fs, vD, vRe, vWa, vDu, vSn⟩ := x
  obtain ⟨AL, cL, e1, l1, l2⟩ := h.L.row.form
  have e1 : vL = .slice AL W.L.length cL := e1
  subst e1
  unfold cellsW at CL ⊢
  clear h
  generalize W.L.length = n at *
  generalize fitsB a = fa at *
  cases o with
  | false =>
    go_enter Try.func80, Try.ntmps80
    go_wp2_with fail
    refine (CF.out _).mono ?_
    rintro e w2 ⟨rfl, rfl⟩
    go_wp2_with fail
    go_ret
    exact ⟨ret_bool (by rw [E.out]; rfl), is_ext _ _⟩
  | true =>
    by_cases h1 : 0 ≤ a
    · by_cases h2 : a < (n : Int)
      · rw [decide_eq_true ⟨h1, h2⟩] at E
        generalize liveB W a = la at *
        cases live with
        | false =>
          go_enter Try.func80, Try.ntmps80
          go_wp2_with fail
          go_ret
          exact ⟨ret_bool (by rw [E.out]; rfl), is_ext _ _⟩
        | true =>
          go_enter Try.func80, Try.ntmps80
          go_wp2_with fail
          refine (CL.out _ (is_ext _ _)).mono ?_
          rintro e w2 ⟨rfl, x2⟩
          have X2 := Lib.hid ((is_ext w _).trans x2)
          clear x2
          go_wp2_with fail
          go_ret
          exact ⟨ret_bool (by rw [E.out]; simp), X2.out⟩
      · rw [decide_eq_false (fun c => h2 c.2)] at E
        have h2' : (n : Int) ≤ a := by omega
        clear h2
        go_enter Try.func80, Try.ntmps80
        go_wp2_with fail
        go_ret
        exact ⟨ret_bool (by rw [E.out]; simp), is_ext _ _⟩
    · rw [decide_eq_false (fun c => h1 c.1)] at E
      have h1' : a < 0 := by omega
      clear h1
      go_enter Try.func80, Try.ntmps80
      go_wp2_with fail
      go_ret
      exact ⟨ret_bool (by rw [E.out]; simp), is_ext _ _⟩
end
end Go.Proofs.Ytadhkmplhgcgkaa.World
