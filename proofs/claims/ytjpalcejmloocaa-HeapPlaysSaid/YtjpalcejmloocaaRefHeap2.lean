/-
  Chapter 5's reference (colloquyref05): Next, Get.
-/
import Derived.Test.YtjpalcejmloocaaRefHeap1
namespace Go.Proofs.Ytjpalcejmloocaa.RefHeap
open Go.RowKit Go.Proofs.Ytjpalcejmloocaa.Plain Go.Proofs.Ytjpalcejmloocaa.Free Go.Proofs.Ytjpalcejmloocaa.Heap Go.Proofs.Ytjpalcejmloocaa.RefFree
set_option linter.unusedVariables false
section
variable {w w' : World} {h f ib base n : Nat} {vL : Value} {Q A B : List QO} {q : QO} {is : List Bool}
set_option maxRecDepth 100000 in
set_option maxHeartbeats 2000000 in
theorem next_yes (H : HAt w h f ib base n vL (A ++ q :: B) is) (at_ : Int) (hq : at_ < (q.o.k : Int) + 1) (ha : ∀ a ∈ A, ¬ at_ < (a.o.k : Int) + 1) :
    Calls Try.prog 46 #[.pointer (some ⟨h, 0, none⟩), .int .i64 at_] w fun e w' => e = .returned (.int .i64 ((q.o.k : Int) + 1)) ∧ Ext w w' := by
  have HB := Lib.hid H.blk
  have hfew := H.few
  obtain ⟨A0, c0, e0, _, _⟩ := own_form H.row
  have AL := Lib.hid H.at_
  have ne := Lib.hid (fun i hi => show ¬ at_ < kAt (A ++ q :: B) i by
    obtain ⟨a, h1, h2⟩ := kAt_left A B q i hi
    rw [h2]; exact ha a h1)
  have MI := Lib.hid (kAt_mid A B q)
  have EQ := Lib.hid hq
  have hlt : A.length < (A ++ q :: B).length := by simp
  subst e0
  generalize kAt (A ++ q :: B) = K at *
  generalize hlq : (A ++ q :: B).length = lq at *
  generalize A.length = la at *
  clear H ha hq hlq
  go_enter Try.func46, Try.ntmps46
  go_wp2_with fail
  go_loopw [5] (fun iv wr => ∃ i : Nat, i ≤ la ∧ iv = .int .i64 i ∧ Ext w wr) (fun iv _ => lq - (intOf iv).toNat)
  case atStart => exact ⟨0, Nat.zero_le _, rfl, Ext.refl _⟩
  case round =>
    obtain ⟨i, hi, rfl, x⟩ := hrel
    obtain ⟨r1, r2, r3⟩ := (HB.out.ext x).rules
    obtain ⟨g, cap, hv, hg, hc⟩ := AL.out i (by omega)
    injection hv with hv _ _
    subst hv
    have c2 := (x.below.cell (p := ⟨g, i * 9, none⟩) hg).trans hc
    have i1 : (i : Int) < (lq : Int) := by omega
    have XH := Lib.hid x
    clear hc x
    by_cases hlt2 : i < la
    · have e1 : K i ≤ at_ := by have := ne.out i hlt2; omega
      generalize K i = kk at *
      go_wp2_with fail
      exact ⟨⟨i + 1, by omega, by go_num, XH.out⟩, by simp [intOf]; omega⟩
    · obtain rfl : i = la := by omega
      have e1 : at_ < K i := by rw [MI.out]; exact EQ.out
      generalize K i = kk at *
      go_wp2_with fail
      go_ret
      exact ⟨by rw [MI.out]; exact rfl, XH.out⟩
set_option maxRecDepth 100000 in
set_option maxHeartbeats 2000000 in
theorem next_no (H : HAt w h f ib base n vL Q is) (at_ : Int) (ha : ∀ a ∈ Q, ¬ at_ < (a.o.k : Int) + 1) :
    Calls Try.prog 46 #[.pointer (some ⟨h, 0, none⟩), .int .i64 at_] w fun e w' => e = .returned (.int .i64 0) ∧ Ext w w' := by
  have HB := Lib.hid H.blk
  have hfew := H.few
  obtain ⟨A0, c0, e0, _, _⟩ := own_form H.row
  have AL := Lib.hid H.at_
  have ne := Lib.hid (fun i (hi : i < Q.length) => show ¬ at_ < kAt Q i by rw [kAt_get Q i hi]; exact ha _ (List.getElem_mem _))
  subst e0
  generalize kAt Q = K at *
  generalize hlq : Q.length = lq at *
  clear H ha hlq
  go_enter Try.func46, Try.ntmps46
  go_wp2_with fail
  go_loopw [5] (fun iv wr => ∃ i : Nat, i ≤ lq ∧ iv = .int .i64 i ∧ Ext w wr) (fun iv _ => lq - (intOf iv).toNat)
  case atStart => exact ⟨0, Nat.zero_le _, rfl, Ext.refl _⟩
  case round =>
    obtain ⟨i, hi, rfl, x⟩ := hrel
    obtain ⟨r1, r2, r3⟩ := (HB.out.ext x).rules
    have XH := Lib.hid x
    by_cases hlt2 : i < lq
    · obtain ⟨g, cap, hv, hg, hc⟩ := AL.out i hlt2
      injection hv with hv _ _
      subst hv
      have c2 := (x.below.cell (p := ⟨g, i * 9, none⟩) hg).trans hc
      have i1 : (i : Int) < (lq : Int) := by omega
      have e1 : K i ≤ at_ := by have := ne.out i hlt2; omega
      generalize K i = kk at *
      clear hc x
      go_wp2_with fail
      exact ⟨⟨i + 1, by omega, by go_num, XH.out⟩, by simp [intOf]; omega⟩
    · obtain rfl : i = lq := by omega
      have i1 : (i : Int) ≤ (i : Int) := Int.le_refl _
      clear x
      go_wp2_with fail
      go_ret
      exact ⟨rfl, XH.out⟩
/-- all nine cells of an object -/
theorem HAt.nine (H : HAt w h f ib base n vL (A ++ q :: B) is) : ∃ g cap, vL = .slice (some ⟨g, 0, none⟩) (A ++ q :: B).length cap ∧ base ≤ g ∧ g < w.heap.size ∧ (∀ k, w.frozen? ⟨g, k, none⟩ = false) ∧ w.cell? ⟨g, A.length * 9, none⟩ = some (.int .i64 ((q.o.k : Int) + 1)) ∧ w.cell? ⟨g, A.length * 9 + 1, none⟩ = some (.int .i64 (3 + (q.o.W : Int))) ∧ w.cell? ⟨g, A.length * 9 + 2, none⟩ = some (.int .i64 q.o.fmt) ∧ w.cell? ⟨g, A.length * 9 + 3, none⟩ = some (.int .i64 q.o.cls) ∧ w.cell? ⟨g, A.length * 9 + 4, none⟩ = some (.int .i64 q.o.hash) ∧ w.cell? ⟨g, A.length * 9 + 5, none⟩ = some q.vF ∧ w.cell? ⟨g, A.length * 9 + 6, none⟩ = some q.vB ∧ w.cell? ⟨g, A.length * 9 + 7, none⟩ = some (.int .i64 q.o.col) ∧ w.cell? ⟨g, A.length * 9 + 8, none⟩ = some (.bool q.o.fin) := by
  obtain ⟨g, cap, h1, h2, h3, h4, h5, h6, h7⟩ := own_cell H.row (by rw [List.length_append, List.length_cons]; omega)
  have m := fun j hj => h7 (A.length * 9 + j) _ ((rowO_mid A B q j hj).trans (List.getElem?_eq_getElem (show j < (cellsO q).length from hj)))
  exact ⟨g, cap, h1, h2, h3, h6, m 0 (by omega), m 1 (by omega), m 2 (by omega), m 3 (by omega), m 4 (by omega), m 5 (by omega), m 6 (by omega), m 7 (by omega), m 8 (by omega)⟩
theorem setNew9 {w w2 : World} {g : Nat} (x : Ext w w2) (hg : w.heap.size ≤ g) (v0 v1 v2 v3 v4 v5 v6 v7 v8 : Value) : Ext w (((((((((w2.setCell ⟨g, 0, none⟩ v0).setCell ⟨g, 1, none⟩ v1).setCell ⟨g, 2, none⟩ v2).setCell ⟨g, 3, none⟩ v3).setCell ⟨g, 4, none⟩ v4).setCell ⟨g, 5, none⟩ v5).setCell ⟨g, 6, none⟩ v6).setCell ⟨g, 7, none⟩ v7).setCell ⟨g, 8, none⟩ v8) :=
  ((((((((x.setNew (p := ⟨g, 0, none⟩) hg v0).setNew (p := ⟨g, 1, none⟩) hg v1).setNew (p := ⟨g, 2, none⟩) hg v2).setNew (p := ⟨g, 3, none⟩) hg v3).setNew (p := ⟨g, 4, none⟩) hg v4).setNew (p := ⟨g, 5, none⟩) hg v5).setNew (p := ⟨g, 6, none⟩) hg v6).setNew (p := ⟨g, 7, none⟩) hg v7).setNew (p := ⟨g, 8, none⟩) hg v8
def aggO (q : QO) : Value := .agg #[.int .i64 ((q.o.k : Int) + 1), .int .i64 (3 + (q.o.W : Int)), .int .i64 q.o.fmt, .int .i64 q.o.cls, .int .i64 q.o.hash, q.vF, q.vB, .int .i64 q.o.col, .bool q.o.fin]
set_option maxRecDepth 100000 in
set_option maxHeartbeats 2000000 in
theorem get_yes (H : HAt w h f ib base n vL (A ++ q :: B) is) (at_ : Int) (hq : (q.o.k : Int) + 1 = at_) (ha : ∀ a ∈ A, (a.o.k : Int) + 1 ≠ at_) :
    Calls Try.prog 34 #[.pointer (some ⟨h, 0, none⟩), .int .i64 at_] w fun e w' => e = .returned (.tuple #[aggO q, .bool true]) ∧ Ext w w' := by
  have FI := Lib.hid (fun W (x : Ext w W) => find_yes (H.ext x) at_ hq ha)
  have HH := Lib.hid H
  have hfew := H.few
  have hlt : A.length < (A ++ q :: B).length := by simp
  obtain ⟨AF, cF, eF, _, _⟩ := own_form (H.fs q (by simp))
  obtain ⟨AB, cB, eB, _, _⟩ := own_form (H.bs q (by simp))
  have i1 : (A.length : Int) < ((A ++ q :: B).length : Int) := by omega
  have i0 : (0 : Int) ≤ (A.length : Int) := by omega
  unfold aggO
  rw [eF, eB]
  clear H hq ha
  go_enter Try.func34, Try.ntmps34
  go_upto_region 1 with (fail)
  refine wp_name (fun w1 hW => ?_)
  have B1 := Lib.hid (Blk.new' hW)
  have X1 := Lib.hid ((Ext.refl w).alloc' hW)
  have HG := Lib.hid (show w.heap.size ≤ w.heap.size from Nat.le_refl _)
  clear hW
  generalize hg0 : w.heap.size = g0 at *
  go_wp2_with fail
  refine (FI.out _ X1.out).mono ?_
  rintro e w2 ⟨rfl, x2⟩
  have X2 := Lib.hid (X1.out.trans x2)
  have B2 := Lib.hid (B1.out.ext x2)
  obtain ⟨g, cap, hv, hb, hg, hf, c0, c1, c2, c3, c4, c5, c6, c7, c8⟩ := (HH.out.ext X2.out).nine
  obtain ⟨r1, r2, r3⟩ := (HH.out.ext X2.out).blk.rules
  obtain ⟨s1, s2, s3⟩ := B2.out.rules
  rw [hv] at r1
  rw [eF] at c5
  rw [eB] at c6
  have ne : g ≠ g0 := by
    rintro rfl
    obtain ⟨_, cs, hcs⟩ := own_blk (HH.out.row) (g := g) (by rw [hv]; rfl)
    have := hcs.lt
    omega
  have ne2 : h ≠ g0 := by
    rintro rfl
    have := HH.out.blk.lt
    omega
  clear x2 X1 B1 FI
  generalize (A ++ q :: B).length = lq at *
  generalize A.length = la at *
  go_wp2_with fail
  refine bodyPost_ret (v := .tuple #[.agg #[.int .i64 ((q.o.k : Int) + 1), .int .i64 (3 + (q.o.W : Int)), .int .i64 q.o.fmt, .int .i64 q.o.cls, .int .i64 q.o.hash, .slice AF q.o.F.length cF, .slice AB q.o.B.length cB, .int .i64 q.o.col, .bool q.o.fin], .bool true]) (by simp [results, Try.results34, go_sem, s1]) rfl ?_
  exact ⟨rfl, setNew9 X2.out (by rw [hg0]; exact HG.out) _ _ _ _ _ _ _ _ _⟩
set_option maxRecDepth 100000 in
set_option maxHeartbeats 2000000 in
theorem get_no (H : HAt w h f ib base n vL Q is) (at_ : Int) (ha : ∀ a ∈ Q, (a.o.k : Int) + 1 ≠ at_) :
    Calls Try.prog 34 #[.pointer (some ⟨h, 0, none⟩), .int .i64 at_] w fun e w' => e = .returned (.tuple #[.agg #[.int .i64 0, .int .i64 0, .int .i64 0, .int .i64 0, .int .i64 (-1), .slice none 0 0, .slice none 0 0, .int .i64 0, .bool false], .bool false]) ∧ Ext w w' := by
  have FI := Lib.hid (fun W (x : Ext w W) => find_no (H.ext x) at_ ha)
  clear H ha
  go_enter Try.func34, Try.ntmps34
  go_upto_region 1 with (fail)
  refine wp_name (fun w1 hW => ?_)
  have B1 := Lib.hid (Blk.new' hW)
  have X1 := Lib.hid ((Ext.refl w).alloc' hW)
  have HG := Lib.hid (show w.heap.size ≤ w.heap.size from Nat.le_refl _)
  clear hW
  generalize hg0 : w.heap.size = g0 at *
  go_wp2_with fail
  refine (FI.out _ X1.out).mono ?_
  rintro e w2 ⟨rfl, x2⟩
  have X2 := Lib.hid (X1.out.trans x2)
  have B2 := Lib.hid (B1.out.ext x2)
  obtain ⟨s1, s2, s3⟩ := B2.out.rules
  clear x2 X1 B1 FI
  go_wp2_with fail
  refine bodyPost_ret (v := .tuple #[.agg #[.int .i64 0, .int .i64 0, .int .i64 0, .int .i64 0, .int .i64 (-1), .slice none 0 0, .slice none 0 0, .int .i64 0, .bool false], .bool false]) (by simp [results, Try.results34, go_sem, s1]) rfl ?_
  exact ⟨rfl, setNew9 X2.out (by rw [hg0]; exact HG.out) _ _ _ _ _ _ _ _ _⟩
end
end Go.Proofs.Ytjpalcejmloocaa.RefHeap
