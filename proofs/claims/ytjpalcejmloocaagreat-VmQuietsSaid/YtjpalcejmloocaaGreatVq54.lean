/-
  Script, Run, Awake27, as one text (a claim has at most 60 files).
-/
import Derived.Test.YtjpalcejmloocaaGreatVq34
import Derived.Test.YtjpalcejmloocaaGreatVq35
import Derived.Test.YtjpalcejmloocaaGreatVq42
import Derived.Test.YtjpalcejmloocaaGreatVq43
import Derived.Test.YtjpalcejmloocaaGreatVq39
import Derived.Laws.IdiomStrings
import Derived.Test.YtjpalcejmloocaaGreatVq51
import Derived.Test.YtjpalcejmloocaaGreatVq52
import Derived.Test.YtjpalcejmloocaaGreatVq31
import Derived.Test.YtjpalcejmloocaaGreatVq53
namespace Go.Proofs.YtjpalcejmloocaaGreat.World
open Go.RowKit Go.Proofs.YtjpalcejmloocaaGreat.Plain
set_option linter.unusedVariables false
attribute [local go_sem ↓] Go.wp_at_zero Go.wp_at_succ
def trC (R : PR) (A : Option Addr) : Array Value := #[.string R.out, .int .i64 R.how, .int .i64 R.exit, .int .i64 0, .int .i64 0, .slice A 0 0, .int .i64 0]
section
variable {w w' : World} {x : WV} {W : PW}
set_option maxRecDepth 100000 in
set_option maxHeartbeats 4000000 in
theorem sreal (h : WorldAt w x W) (B : Bare W) :
    Calls Tryz.prog 45 #[.agg (cellsW W x), .int .i64 1000, .int .i64 5, .slice none 0 0] w fun e w' => (∃ A, e = .returned (.tuple #[.agg (trC W.R A), .bool true])) ∧ Ext w w' := by
  have CN := Lib.hid (fun w' (e : Ext w w') => rnew (h.ext e) B)
  have HS := Lib.hid B.snaps
  obtain ⟨vL, fs, vD, vRe, vWa, vDu, vSn⟩ := x
  obtain ⟨A1, c1, e1, _⟩ := h.L.row.form
  replace e1 : vL = .slice A1 W.L.length c1 := e1
  subst e1
  obtain ⟨A2, c2, e2, _⟩ := Row.form h.dead
  replace e2 : vD = .slice A2 W.dead.length c2 := e2
  subst e2
  obtain ⟨A3, c3, e3, _⟩ := Row.form h.ready
  replace e3 : vRe = .slice A3 W.R.ready.length c3 := e3
  subst e3
  obtain ⟨A4, c4, e4, _⟩ := Row.form h.wait
  replace e4 : vWa = .slice A4 W.R.wait.length c4 := e4
  subst e4
  obtain ⟨A5, c5, e5, _⟩ := Row.form h.due
  replace e5 : vDu = .slice A5 W.R.due.length c5 := e5
  subst e5
  obtain ⟨A6, c6, e6, _⟩ := Row.form h.snaps
  replace e6 : vSn = .slice A6 W.R.snaps.length c6 := e6
  subst e6
  clear h B
  unfold cellsW at *
  go_enter Tryz.func45, Tryz.ntmps45
  go_upto_region 1 with (fail)
  refine wp_name (fun W1 hW => ?_)
  have B8 := Lib.hid (Blk.new' hW)
  have B4 := Lib.hid ((Blk.new w _ _).alloc' hW)
  have X1 := Lib.hid (((Ext.refl w).alloc _).alloc' hW)
  simp only [World.size_alloc] at B8
  clear hW
  obtain ⟨g4, eg⟩ : ∃ g, w.heap.size = g := ⟨_, rfl⟩
  have EG := Lib.hid eg
  rw [eg] at B8 B4 ⊢
  clear eg
  obtain ⟨g8, e8⟩ : ∃ g, g4 + 1 = g := ⟨_, rfl⟩
  have HG8 := Lib.hid (show w.heap.size ≤ g8 by rw [← e8, EG.out]; exact Nat.le_succ _)
  rw [e8] at B8 ⊢
  clear e8 EG
  obtain ⟨r1, r2, r3⟩ := B4.out.rules
  go_wp2_with fail
  refine (CN.out _ X1.out).mono ?_
  rintro e w2 ⟨⟨M, rfl, hm⟩, x2⟩
  have CP := Lib.hid (play0 hm HS.out)
  have X2 := Lib.hid (X1.out.trans x2)
  have B2 := Lib.hid (B8.out.ext x2)
  clear hm x2 X1 B8 B4 r1 r2 r3 CN
  go_wp2_with fail
  refine CP.out.mono ?_
  rintro e w3 ⟨⟨A, rfl⟩, x3⟩
  have X3 := Lib.hid (X2.out.trans x3)
  have B3 := Lib.hid (B2.out.ext x3)
  clear x3 X2 B2 CP
  obtain ⟨r1, r2, r3⟩ := B3.out.rules
  go_wp2_with fail
  refine bodyPost_ret (v := .tuple #[.agg (trC W.R A), .bool true]) (by simp [results, Tryz.results45, go_sem, r1, r3, trC]) rfl ?_
  exact ⟨⟨_, rfl⟩, (((((((X3.out.setNew (p := ⟨g8, 0, none⟩) HG8.out _).setNew (p := ⟨g8, 1, none⟩) HG8.out _).setNew (p := ⟨g8, 2, none⟩) HG8.out _).setNew (p := ⟨g8, 3, none⟩) HG8.out _).setNew (p := ⟨g8, 4, none⟩) HG8.out _).setNew (p := ⟨g8, 5, none⟩) HG8.out _).setNew (p := ⟨g8, 6, none⟩) HG8.out _)⟩
end
end Go.Proofs.YtjpalcejmloocaaGreat.World
namespace Go.Proofs.YtjpalcejmloocaaGreat.World
open Go.RowKit Go.Proofs.YtjpalcejmloocaaGreat.Plain
set_option linter.unusedVariables false
attribute [local go_sem ↓] Go.wp_at_zero Go.wp_at_succ
/-- a world with something to be read -/
def inpW (W : PW) (s : ByteArray) : PW := { W with R := { W.R with inp := s } }
theorem inp_at {w : World} {x : WV} {W : PW} {s : ByteArray} (h : WorldAt w x W) (hs : s.size ≤ maxLen) : WorldAt w x (inpW W s) :=
  ⟨h.L, h.dead, h.ready, h.wait, h.due, h.snaps, ⟨h.nums.last, h.nums.proc, h.nums.frame, h.nums.how, h.nums.exit, h.nums.out, hs, h.nums.ready, h.nums.due, h.nums.wait, h.nums.snaps, h.nums.things⟩⟩
def strX : ByteArray := ⟨#[120]⟩
theorem bare_x : Bare (inpW firstW strX) := ⟨rfl, rfl, by decide +kernel, rfl, rfl, rfl, rfl, rfl, rfl, rfl⟩
theorem putF0 : (putS firstW).1 = 0 := by decide +kernel
theorem putF_ok : okB (putS firstW).2 := by
  have h : (putS firstW).2.all (fun x => decide (0 ≤ x ∧ x < 256)) = true := by decide +kernel
  intro x hx
  exact of_decide_eq_true (List.all_eq_true.1 h x hx)
theorem putF_len : (putS firstW).2.length ≤ 60000 := by decide +kernel
theorem getF : getS (putS firstW).2 = (0, some firstW) := (get_put putF0).1
theorem get_cases0 {b : List Int} : (∃ k, k ≠ 0 ∧ getS b = (k, none)) ∨ ∃ W, getS b = (0, some W) := by
  unfold getS
  split
  · exact .inl ⟨2, by decide, rfl⟩
  · split
    · exact .inl ⟨4, by decide, rfl⟩
    · split
      · exact .inr ⟨_, rfl⟩
      · rename_i h
        exact .inl ⟨_, h, rfl⟩
theorem get0 : getS [] = (3, none) := by
  have h : (getS []).1 = 3 := by decide +kernel
  rcases get_cases0 (b := []) with ⟨k, _, e⟩ | ⟨W, e⟩
  · rw [e] at h ⊢
    have h : k = 3 := h
    rw [h]
  · rw [e] at h
    have h : (0 : Int) = 3 := h
    omega
section
variable {w : World}
theorem rget_none {v : Value} {b : List Int} {k : Int} (h : Row w v b.length 1 (cU b)) (hb : okB b) (hn : b.length ≤ 9000000000000000000) (hg : getS b = (k, none)) :
    Calls Tryz.prog 44 #[v] w fun e w' => e = .returned (.tuple #[.agg zeroWc, .int .i64 k]) ∧ Ext w w' :=
  (getW h hb hn).mono fun e w' ⟨cs, he, h1, _, x⟩ => ⟨by rw [he, h1 (by rw [hg]), hg], x⟩
theorem rget_some {v : Value} {b : List Int} {W : PW} (h : Row w v b.length 1 (cU b)) (hb : okB b) (hn : b.length ≤ 9000000000000000000) (hg : getS b = (0, some W)) :
    Calls Tryz.prog 44 #[v] w fun e w' => ∃ x, e = .returned (.tuple #[.agg (cellsW W x), .int .i64 0]) ∧ NewW w' w.heap.size W x ∧ Ext w w' :=
  (getW h hb hn).mono fun e w' ⟨cs, he, _, h2, x⟩ => by
    obtain ⟨y, e1, n⟩ := h2 W (by rw [hg])
    exact ⟨y, by rw [he, e1, hg], n, x⟩
theorem conv_bytes (w : World) (s : ByteArray) (hs : s.size ≤ maxLen) :
    ∃ c w', (convert 9 79 (.string s)).run Tryz.prog w = .ok (.slice (some ⟨w.heap.size, 0, none⟩) s.size c) w' ∧ Row w' (.slice (some ⟨w.heap.size, 0, none⟩) (bytesI s).length c) (bytesI s).length 1 (cU (bytesI s)) ∧ Ext w w' := by
  refine ⟨_, _, run_bytes_of_string (P := Tryz.prog) w 9 79 5 s Tryz.underlying9 Tryz.underlying79 Tryz.underlying5, ⟨_, _, rfl, ?_, ?_, fun i hi => ⟨w.heap.size, 0, rfl, ?_, fun j hj => ?_⟩⟩, (Ext.refl w).drew.alloc _⟩
  · rw [bytesI_len]; exact grownCap_ge _ _ _ _
  · have := grownCap_le_maxLen w s.size 0 5 hs
    unfold maxLen at this
    omega
  · show w.heap.size < (w.heap.push _).size
    rw [Array.size_push]; omega
  · obtain rfl : j = 0 := by omega
    rw [bytesI_len] at hi
    rw [show 0 + i * 1 + 0 = i from by omega, cell_of_row _ w.heap.size i _ _ _ (heap_alloc_new w.drew _)]
    unfold bytesRow cU
    have hi' : i < s.data.size := hi
    rw [Array.getElem?_append_left (by rw [Array.size_map]; exact hi'), Array.getElem?_map, Array.getElem?_eq_getElem hi']
    simp [bytesI, List.getD_eq_getElem?_getD, Array.getElem?_eq_getElem hi']
set_option maxRecDepth 100000 in
set_option maxHeartbeats 4000000 in
theorem run0 (w : World) : Calls Tryz.prog 30 #[.slice none 0 0, .string ⟨#[]⟩, .int .i64 1000, .int .i64 5, .slice none 0 0] w fun e w' => e = .returned (.tuple #[.agg zeroTr, .int .i64 3]) ∧ Ext w w' := by
  have CG := Lib.hid (fun W => rget_none (w := W) (v := .slice none 0 0) (b := []) ⟨_, _, rfl, Nat.le_refl _, by omega, fun i hi => absurd hi (Nat.not_lt_zero _)⟩ (fun x hx => by cases hx) (by simp) get0)
  unfold zeroWc at CG
  go_enter Tryz.func30, Tryz.ntmps30
  go_upto_region 1 with (fail)
  refine wp_name (fun W1 hW => ?_)
  have B1 := Lib.hid (Blk.new' hW)
  have X1 := Lib.hid ((Ext.refl w).alloc' hW)
  clear hW
  refine wp_scope_fwd 0 rfl (fun J hJ => ?_)
  have HJ := Lib.hid hJ
  clear hJ
  obtain ⟨g10, eg⟩ : ∃ g, w.heap.size = g := ⟨_, rfl⟩
  have HG := Lib.hid (show w.heap.size ≤ g10 by rw [eg]; exact Nat.le_refl _)
  rw [eg] at B1 ⊢
  clear eg
  go_upto_region 2 with (fail)
  refine wp_name (fun W2 hW => ?_)
  have B12 := Lib.hid (Blk.new' hW)
  have B10 := Lib.hid (B1.out.alloc' hW)
  have X2 := Lib.hid (X1.out.alloc' hW)
  clear hW B1 X1
  generalize W1.heap.size = g12 at *
  go_wp2_with fail
  refine (CG.out _).mono ?_
  rintro e w3 ⟨rfl, x3⟩
  have X3 := Lib.hid (X2.out.trans x3)
  have C12 := Lib.hid (B12.out.ext x3)
  have C10 := Lib.hid (B10.out.ext x3)
  clear x3 B12 B10 X2 CG
  go_wp2_with fail
  refine wp_goto ?_
  refine ⟨rfl, HJ.out _ _ ?_⟩
  clear HJ
  refine wp_name (fun W4 hW => ?_)
  have X4 := Lib.hid (X3.out.alloc' hW)
  have D12 := Lib.hid (C12.out.alloc' hW)
  have D10 := Lib.hid (C10.out.alloc' hW)
  clear hW X3 C12 C10
  obtain ⟨r1, r2, r3⟩ := D12.out.rules
  obtain ⟨s1, s2, s3⟩ := D10.out.rules
  go_wp2_with fail
  unfold Exit.noGoto
  dsimp only
  refine bodyPost_ret (v := .tuple #[.agg zeroTr, .int .i64 3]) (by simp [results, Tryz.results30, go_sem, s1, s3, zeroTr]; rfl) rfl ?_
  exact ⟨rfl, (((((((X4.out.setNew (p := ⟨g10, 0, none⟩) HG.out _).setNew (p := ⟨g10, 1, none⟩) HG.out _).setNew (p := ⟨g10, 2, none⟩) HG.out _).setNew (p := ⟨g10, 3, none⟩) HG.out _).setNew (p := ⟨g10, 4, none⟩) HG.out _).setNew (p := ⟨g10, 5, none⟩) HG.out _).setNew (p := ⟨g10, 6, none⟩) HG.out _)⟩
set_option maxRecDepth 100000 in
set_option maxHeartbeats 4000000 in
theorem run1 {vb : Value} {b : List Int} {W : PW} (h : Row w vb b.length 1 (cU b)) (hb : okB b) (hn : b.length ≤ 9000000000000000000) (hg : getS b = (0, some W)) (B : Bare (inpW W ⟨#[120]⟩)) :
    Calls Tryz.prog 30 #[vb, .string ⟨#[120]⟩, .int .i64 1000, .int .i64 5, .slice none 0 0] w fun e w' => (∃ A, e = .returned (.tuple #[.agg (trC (inpW W ⟨#[120]⟩).R A), .int .i64 0])) ∧ Ext w w' := by
  have CG := Lib.hid (fun W2 (x : Ext w W2) => rget_some (h.ext x) hb hn hg)
  have HB := Lib.hid B
  obtain ⟨Ab, cb, eb, _⟩ := h.form
  subst eb
  clear h hb hn hg B
  go_enter Tryz.func30, Tryz.ntmps30
  go_upto_region 1 with (fail)
  refine wp_name (fun W1 hW => ?_)
  have B1 := Lib.hid (Blk.new' hW)
  have X1 := Lib.hid ((Ext.refl w).alloc' hW)
  clear hW
  refine wp_scope_fwd 0 rfl (fun J _ => ?_)
  obtain ⟨g10, eg⟩ : ∃ g, w.heap.size = g := ⟨_, rfl⟩
  have HG := Lib.hid (show w.heap.size ≤ g10 by rw [eg]; exact Nat.le_refl _)
  rw [eg] at B1 ⊢
  clear eg
  go_upto_region 2 with (fail)
  refine wp_name (fun W2 hW => ?_)
  have B12 := Lib.hid (Blk.new' hW)
  have B10 := Lib.hid (B1.out.alloc' hW)
  have X2 := Lib.hid (X1.out.alloc' hW)
  have HG12 := Lib.hid X1.out.below.size
  have NE := Lib.hid (show g10 ≠ W1.heap.size by have := B1.out.lt; omega)
  clear hW B1 X1
  generalize W1.heap.size = g12 at *
  go_wp2_with fail
  refine (CG.out _ X2.out).mono ?_
  rintro e w3 ⟨x, rfl, hN, x3⟩
  have X3 := Lib.hid (X2.out.trans x3)
  have C12 := Lib.hid (B12.out.ext x3)
  have C10 := Lib.hid (B10.out.ext x3)
  have h := hN.at_
  clear x3 B12 B10 X2 CG hN
  obtain ⟨vL, fs, vD, vRe, vWa, vDu, vSn⟩ := x
  obtain ⟨A1, c1, e1, _⟩ := h.L.row.form
  replace e1 : vL = .slice A1 W.L.length c1 := e1
  subst e1
  obtain ⟨A2, c2, e2, _⟩ := Row.form h.dead
  replace e2 : vD = .slice A2 W.dead.length c2 := e2
  subst e2
  obtain ⟨A3, c3, e3, _⟩ := Row.form h.ready
  replace e3 : vRe = .slice A3 W.R.ready.length c3 := e3
  subst e3
  obtain ⟨A4, c4, e4, _⟩ := Row.form h.wait
  replace e4 : vWa = .slice A4 W.R.wait.length c4 := e4
  subst e4
  obtain ⟨A5, c5, e5, _⟩ := Row.form h.due
  replace e5 : vDu = .slice A5 W.R.due.length c5 := e5
  subst e5
  obtain ⟨A6, c6, e6, _⟩ := Row.form h.snaps
  replace e6 : vSn = .slice A6 W.R.snaps.length c6 := e6
  subst e6
  have CS := Lib.hid (fun W2 (x : Ext w3 W2) => sreal (inp_at (s := ⟨#[120]⟩) (h.ext x) (by unfold maxLen; decide)) HB.out)
  have X30 := Lib.hid (Ext.refl w3)
  clear h
  unfold cellsW at *
  go_upto_region 8 with (fail)
  refine wp_name (fun W4 hW => ?_)
  have Y4 := Lib.hid ((Ext.refl w3).alloc' hW)
  have B14 := Lib.hid (Blk.new' hW)
  have D12 := Lib.hid (C12.out.ext Y4.out)
  have D10 := Lib.hid (C10.out.ext Y4.out)
  have X4 := Lib.hid (X3.out.trans Y4.out)
  clear hW C12 C10 X3 X30
  generalize w3.heap.size = g14 at *
  obtain ⟨r1, r2, r3⟩ := B14.out.rules
  go_wp2_with fail
  refine (CS.out _ Y4.out).mono ?_
  rintro e w5 ⟨⟨A, rfl⟩, x5⟩
  have X5 := Lib.hid (X4.out.trans x5)
  have E12 := Lib.hid (D12.out.ext x5)
  have E10 := Lib.hid (D10.out.ext x5)
  clear x5 X4 D12 D10 Y4 CS B14 r1 r2 r3
  unfold trC
  obtain ⟨r1, r2, r3⟩ := E12.out.rules
  obtain ⟨s1, s2, s3⟩ := E10.out.rules
  have ne := NE.out
  go_wp2_with fail
  refine wp_label ?_
  go_wp2_with fail
  unfold Exit.jump
  dsimp only
  refine bodyPost_ret (v := .tuple #[.agg (trC (inpW W ⟨#[120]⟩).R A), .int .i64 0]) (by simp [results, Tryz.results30, go_sem, s1, s3, r3, ne, trC]) rfl ?_
  exact ⟨⟨_, rfl⟩, ((((((((((((((X5.out.setNew (p := ⟨g12, 0, none⟩) HG12.out _).setNew (p := ⟨g12, 1, none⟩) HG12.out _).setNew (p := ⟨g12, 2, none⟩) HG12.out _).setNew (p := ⟨g12, 3, none⟩) HG12.out _).setNew (p := ⟨g12, 4, none⟩) HG12.out _).setNew (p := ⟨g12, 5, none⟩) HG12.out _).setNew (p := ⟨g12, 6, none⟩) HG12.out _).setNew (p := ⟨g10, 0, none⟩) HG.out _).setNew (p := ⟨g10, 1, none⟩) HG.out _).setNew (p := ⟨g10, 2, none⟩) HG.out _).setNew (p := ⟨g10, 3, none⟩) HG.out _).setNew (p := ⟨g10, 4, none⟩) HG.out _).setNew (p := ⟨g10, 5, none⟩) HG.out _).setNew (p := ⟨g10, 6, none⟩) HG.out _)⟩
end
end Go.Proofs.YtjpalcejmloocaaGreat.World
namespace Go.Proofs.YtjpalcejmloocaaGreat.World
open Go.RowKit Go.Proofs.YtjpalcejmloocaaGreat.Plain
set_option linter.unusedVariables false
attribute [local go_sem ↓] Go.wp_at_zero Go.wp_at_succ
def evs : List EV := [⟨2, 0, ByteArray.empty⟩, ⟨3, 0, ByteArray.empty⟩]
theorem evs_quiet : (quietE evs).length = 1 := by decide
theorem evs_row {w : World} {g : Nat} (h : Blk w g 63 #[.int .i64 2, .int .i64 0, .string ByteArray.empty, .int .i64 3, .int .i64 0, .string ByteArray.empty]) : Row w (.slice (some ⟨g, 0, none⟩) 2 2) evs.length 3 (cE evs) :=
  ⟨_, _, rfl, Nat.le_refl _, by decide, fun i hi => ⟨g, 0, rfl, h.lt, fun j hj => by
    have hi : i < 2 := hi
    rcases (show i = 0 ∨ i = 1 by omega) with rfl | rfl <;> rcases (show j = 0 ∨ j = 1 ∨ j = 2 by omega) with rfl | rfl | rfl <;> (rw [h.cell]; rfl)⟩⟩
theorem encF_len : (encW firstW).length ≤ 60000 := by decide +kernel
set_option maxRecDepth 100000 in
set_option maxHeartbeats 4000000 in
theorem awake27 (w : World) : Calls Tryz.prog 17 #[] w fun e w' => e = .returned (.bool true) ∧ Ext w w' := by
  have CR1 := Lib.hid (fun (W2 : World) (vb : Value) (r : Row W2 vb (putS firstW).2.length 1 (cU (putS firstW).2)) => run1 r putF_ok (Nat.le_trans putF_len (by decide)) getF bare_x)
  have CV := Lib.hid (fun W2 => conv_bytes W2 (strI (putS firstW).2) (by rw [strI_size]; exact Nat.le_trans putF_len (by unfold maxLen; decide)))
  rw [bytesI_str _ _ rfl putF_ok, strI_size] at CV
  have CP := Lib.hid (fun W2 x (h : WorldAt W2 x firstW) => rput h (fun _ => encF_len))
  rw [putF0] at CP
  have CQ := Lib.hid evs_quiet
  generalize (putS firstW).2 = pb at *
  go_enter Tryz.func17, Tryz.ntmps17
  go_wp2_with fail
  refine (run0 _).mono ?_
  rintro e w2 ⟨rfl, x2⟩
  have X2 := Lib.hid x2
  clear x2
  unfold zeroTr
  go_wp2_with fail
  refine (first_ _).mono ?_
  rintro e w3 ⟨x, rfl, hb, x3⟩
  have WA := Lib.hid (hb.at_ (nums_of_check first_check))
  have X3 := Lib.hid ((X2.out.alloc _).trans x3)
  clear hb x3 X2
  go_wp2_with fail
  refine (CP.out _ _ WA.out).mono ?_
  rintro e w4 ⟨rfl, x4⟩
  have X4 := Lib.hid (X3.out.trans x4)
  clear x4 X3 WA CP
  obtain ⟨c, w5, hcv, hrow, x5⟩ := CV.out w4
  have X5 := Lib.hid (X4.out.trans x5)
  have HR := Lib.hid hrow
  clear hrow x5 X4 CV
  go_wp2_with fail
  refine (CR1.out _ _ HR.out).mono ?_
  rintro e w6 ⟨⟨A, rfl⟩, x6⟩
  have X6 := Lib.hid (X5.out.trans x6)
  clear x6 X5 CR1 HR hcv
  unfold trC
  go_upto_region 4 with (fail)
  refine wp_name (fun W7 hW => ?_)
  have B7 := Lib.hid (Blk.new' hW)
  have X7 := Lib.hid (X6.out.alloc' hW)
  clear hW X6
  generalize w6.heap.size = g7 at *
  obtain ⟨r1, r2, r3⟩ := B7.out.rules
  have hhow : (inpW firstW ⟨#[120]⟩).R.how = 0 := rfl
  go_wp2_with fail
  refine (quiet_ (evs_row (Blk.new _ _ _)) (by decide)).mono ?_
  rintro e w8 ⟨A8, c8, rfl, o8, x8⟩
  rw [CQ.out]
  have X8 := Lib.hid ((X7.out.alloc _).trans x8)
  clear o8 x8 X7 r1 r2 r3 B7 CQ
  go_wp2_with fail
  go_ret
  exact ⟨rfl, X8.out⟩
end Go.Proofs.YtjpalcejmloocaaGreat.World
