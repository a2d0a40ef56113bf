/-
  colloquylaw08.awake.
-/
import Derived.Test.YtadhkmplhgcgkaaReach16
import Derived.Test.YtadhkmplhgcgkaaAdd4
import Derived.Test.YtadhkmplhgcgkaaNums
import Derived.Deep.RegionHeld3
namespace Go.Proofs.Ytadhkmplhgcgkaa.World
open Go.RowKit Go.Proofs.Ytadhkmplhgcgkaa.Plain
set_option linter.unusedVariables false
attribute [local go_sem ↓] Go.wp_at_zero Go.wp_at_succ
theorem rch_lt {W : PW} {weak : Bool} (h : checkB W = true) {i : Nat} (hr : Rch (nxW W weak) (rootsOf W.R) i) : i < W.L.length := by
  induction hr with
  | root hm => have := roots_in h _ hm; omega
  | step _ hj ih => have := nexts_in h ih _ hj; omega
theorem rch_all {W : PW} {weak : Bool} (h : checkB W = true) (ha : ∀ i, i < W.L.length → Rch (nxW W weak) (rootsOf W.R) i) {l : List Bool} (hl : RchL W.L.length (nxW W weak) (rootsOf W.R) l) : l = List.replicate W.L.length true := by
  refine hl.uniq ⟨by simp, fun i => ⟨fun hs => ha i ?_, fun hr => ?_⟩⟩
  · have := sB_lt hs; simpa using this
  · have := rch_lt h hr
    unfold sB
    rw [List.getD_eq_getElem?_getD, List.getElem?_replicate, if_pos this]; rfl
theorem rch_root {W : PW} {weak : Bool} {i : Nat} (hi : i < 23) : Rch (nxW W weak) (rootsOf W.R) i := by
  have : (i : Int) ∈ rootsOf W.R := by
    unfold rootsOf upTo
    exact List.mem_append.2 (.inl (List.mem_map.2 ⟨i, List.mem_range.2 hi, rfl⟩))
  have q := Rch.root (nx := nxW W weak) this
  simpa using q
def l23 : List Bool := List.replicate 23 true
theorem first_rch {weak : Bool} {l : List Bool} (hl : RchL firstW.L.length (nxW firstW weak) (rootsOf firstW.R) l) : l = l23 :=
  rch_all first_check (fun i hi => rch_root (by have e : firstW.L.length = 23 := firstL_len 23; omega)) hl
def C1 : PW := canonW firstW l23
theorem c1_check : checkB C1 = true := by decide +kernel
theorem c1_len : C1.L.length = 23 := by decide +kernel
theorem c1_rch {weak : Bool} {l : List Bool} (hl : RchL C1.L.length (nxW C1 weak) (rootsOf C1.R) l) : l = l23 := by
  have q := rch_all c1_check (fun i hi => rch_root (by rw [c1_len] at hi; exact hi)) hl
  rw [c1_len] at q; exact q
theorem c1_same : eqW C1 (canonW C1 l23) = true := by decide +kernel
theorem first_roots : rootsOf firstW.R = upTo 23 := by decide +kernel
theorem cells_first (A1 : Option Addr) (k1 : Nat) (fs : Nat → Value) : cellsW firstW ⟨.slice A1 23 k1, fs, .slice none 0 0, .slice none 0 0, .slice none 0 0, .slice none 0 0, .slice none 0 0⟩ = #[.slice A1 23 k1, .slice none 0 0, .int .i64 23, .int .i64 0, .int .i64 0, .slice none 0 0, .slice none 0 0, .slice none 0 0, .string ByteArray.empty, .string ByteArray.empty, .int .i64 0, .int .i64 0, .slice none 0 0] := rfl
set_option maxRecDepth 100000 in
set_option maxHeartbeats 4000000 in
theorem awake8 (w : World) : Calls Try.prog 16 #[] w fun e w' => e = .returned (.bool true) ∧ Ext w w' := by
  go_enter Try.func16, Try.ntmps16
  go_wp2_with fail
  refine (first_ _).mono ?_
  rintro e w0 ⟨x, rfl, hb, x0⟩
  obtain ⟨vL, fs, vD, vRe, vWa, vDu, vSn⟩ := x
  have WA := hb.at_ (nums_of_check first_check)
  obtain ⟨h1, h2, h3, h4, h5⟩ := hb.bare
  simp only at h1 h2 h3 h4 h5
  subst h1 h2 h3 h4 h5
  obtain ⟨A1, k1, hA⟩ := hb.L.form
  have hA : vL = .slice A1 23 k1 := hA
  subst hA
  have X0 := Lib.hid x0
  have W0 := Lib.hid WA
  clear hb WA x0
  rw [cells_first]
  go_upto_region 2 with (fail)
  refine wp_name (fun w1 hW => ?_)
  have b1 : Blk w1 w0.heap.size 31 #[.slice A1 23 k1, .slice none 0 0, .int .i64 23, .int .i64 0, .int .i64 0, .slice none 0 0, .slice none 0 0, .slice none 0 0, .string ByteArray.empty, .string ByteArray.empty, .int .i64 0, .int .i64 0, .slice none 0 0] := Blk.new' hW
  have x1 : Ext w0 w1 := (Ext.refl _).alloc' hW
  clear hW
  have X1 := Lib.hid (X0.out.trans x1)
  have W1 := Lib.hid (W0.out.ext x1)
  obtain ⟨r1, r2, r3⟩ := b1.rules
  have B1 := Lib.hid b1
  generalize w0.heap.size = g at *
  have q0 : w1.cell? ⟨g, 0, none⟩ = some (.slice A1 23 k1) := r1 0
  have q1 : w1.cell? ⟨g, 1, none⟩ = some (.slice none 0 0) := r1 1
  have q2 : w1.cell? ⟨g, 2, none⟩ = some (.int .i64 23) := r1 2
  have q3 : w1.cell? ⟨g, 3, none⟩ = some (.int .i64 0) := r1 3
  have q4 : w1.cell? ⟨g, 4, none⟩ = some (.int .i64 0) := r1 4
  have q5 : w1.cell? ⟨g, 5, none⟩ = some (.slice none 0 0) := r1 5
  have q6 : w1.cell? ⟨g, 6, none⟩ = some (.slice none 0 0) := r1 6
  have q7 : w1.cell? ⟨g, 7, none⟩ = some (.slice none 0 0) := r1 7
  have q8 : w1.cell? ⟨g, 8, none⟩ = some (.string ByteArray.empty) := r1 8
  have q9 : w1.cell? ⟨g, 9, none⟩ = some (.string ByteArray.empty) := r1 9
  have q10 : w1.cell? ⟨g, 10, none⟩ = some (.int .i64 0) := r1 10
  have q11 : w1.cell? ⟨g, 11, none⟩ = some (.int .i64 0) := r1 11
  have q12 : w1.cell? ⟨g, 12, none⟩ = some (.slice none 0 0) := r1 12
  have CR := Lib.hid (fun W2 (y : Ext w1 W2) => Roots_ (W1.out.ext y) (fun _ => by decide +kernel))
  have CC := Lib.hid (fun W2 (y : Ext w1 W2) => canonP (W1.out.ext y) first_check)
  have CS := Lib.hid (fun W2 (y : Ext w1 W2) => strong_ (W1.out.ext y))
  have CM := Lib.hid (fun W2 (y : Ext w1 W2) v (hv : WorldAt W2 v C1) => same_ (W1.out.ext y) hv)
  rw [cells_first] at CR CC CS CM
  clear x1 W0 b1
  go_region_with ((first | (go_at_call 25; refine (CR.out _ (is_ext w1 _)).mono ?_; rintro e w2 ⟨v, rfl, o2, x2⟩; rw [if_pos first_check, first_roots] at o2; obtain ⟨A2, k2, e2⟩ := o2.own.form; have e2 : v = .slice A2 23 k2 := e2; subst e2; have i2 : IsExt w1 w2 := ⟨(is_ext w1 _).trans x2⟩; obtain ⟨u1, u2, u3⟩ := (B1.out.ext i2.out).rules; clear o2 x2) | (go_at_call 14; refine (CC.out _ (is_ext w1 _)).mono ?_; rintro e w2 ⟨cs, rfl, hcs, x2⟩; obtain ⟨l, xc, rl, rfl, nc⟩ := hcs; obtain rfl := first_rch rl; rw [show canonW firstW l23 = C1 from rfl]; have NC : Hid (WorldAt w2 xc C1) := Lib.hid nc.at_; have i2 : IsExt w1 w2 := ⟨(is_ext w1 _).trans x2⟩; obtain ⟨u1, u2, u3⟩ := (B1.out.ext i2.out).rules; clear nc rl x2) | (go_at_call 26; refine (CM.out _ (is_ext w1 _) _ (NC.out.ext (is_ext _ _))).mono ?_; rintro e w2 ⟨r, rfl, _, _, hy, x2⟩; obtain ⟨la, lb, ra, rb, hr⟩ := hy first_check c1_check; obtain rfl := first_rch ra; obtain rfl := c1_rch rb; obtain rfl : r = true := hr.trans c1_same; have i2 : IsExt w1 w2 := ⟨(is_ext w1 _).trans x2⟩; obtain ⟨u1, u2, u3⟩ := (B1.out.ext i2.out).rules; clear hy ra rb x2 hr) | (go_at_call 12; refine (CS.out _ (is_ext w1 _)).mono ?_; rintro e w2 ⟨v, rfl, hv, x2⟩; obtain ⟨l, g5, rfl, hl, b5, _⟩ := hv.yes first_check; obtain rfl := first_rch hl; rw [show firstW.L.length = 23 from firstL_len 23]; have i2 : IsExt w1 w2 := ⟨(is_ext w1 _).trans x2⟩; obtain ⟨u1, u2, u3⟩ := (B1.out.ext i2.out).rules; have c5 : w2.cell? ⟨g5, 5, none⟩ = some (.bool true) := b5.cell 5; have l5 := b5.lt; clear hl b5 hv x2)))
  all_goals
    go_wp2_with fail
    go_ret
    exact ⟨ret_bool rfl, X1.out.trans (is_ext w1 _)⟩
end Go.Proofs.Ytadhkmplhgcgkaa.World
