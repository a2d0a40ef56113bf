/-
  Contracts of package frame (chapter 14): outer, Temp, SetTemp.
-/
import Derived.Test.YtnhijjcplnomgaaGreatFramePlain4
import Derived.ScopeJumps
import Derived.WalkMore
import Derived.Deep.DeepCutAuto
namespace Go.Proofs.YtnhijjcplnomgaaGreat.World
open Go.RowKit Go.Proofs.YtnhijjcplnomgaaGreat.Plain
set_option linter.unusedVariables false
attribute [local go_sem ↓] Go.wp_at_zero Go.wp_at_succ
namespace MS
/-- the frame so many homes further out -/
def outN (S : MS) : Nat → Int → Option Int
  | 0, id => some id
  | k + 1, id => if isNil (S.get id 5) then none else if S.isFrame (S.get (S.get id 5).n 0).n then S.outN k (S.get (S.get id 5).n 0).n else none
end MS
section
variable {w w' w2 : World} {F F' F2 : Nat → Prop} {m : Nat} {S S' : MS} {X : MX}
set_option maxRecDepth 100000 in
set_option maxHeartbeats 1000000 in
theorem fouter (h : M w F m S) (id : Int) (hf : S.isFrame id = true) (n : Nat) (hn : n ≤ 8) : Calls Tryz.prog 92 #[.pointer (some ⟨m, 0, none⟩), .int .i64 id, .int .i64 n] w fun e w' => e = .returned (.tuple #[.int .i64 ((S.outN n id).getD 0), .bool (S.outN n id).isSome]) ∧ Ext w w' := by
  have C1 := Lib.hid (fun W [x : IsExt w W] i => fis (h.ext x.out) i)
  have C2 := Lib.hid (fun W [x : IsExt w W] i j => mget (h.ext x.out) i j)
  have C3 := Lib.hid (fun W [x : IsExt w W] => mnil (h.ext x.out))
  have d1 : decide ((n : Int) < 0) = false := decide_eq_false (by omega)
  have d2 : decide (8 < (n : Int)) = false := decide_eq_false (by omega)
  go_enter Tryz.func92, Tryz.ntmps92
  go_wp2_with fail
  go_step3
  go_wp2_with (first | (go_at_call 39; refine (C1.out _ _).mono ?_; rintro e w2 ⟨rfl, x2⟩; have i2 : IsExt w w2 := ⟨(is_ext w _).trans x2⟩; clear x2))
  have E0 := Lib.hid (show S.outN n id = S.outN n id from rfl)
  have IF := Lib.hid hf
  clear hf h
  go_step3
  go_wp2_with fail
  go_loopw [1, 2] (fun a b wr => ∃ (k : Nat) (i : Int), a = .int .i64 i ∧ b = .int .i64 k ∧ k ≤ 8 ∧ S.isFrame i = true ∧ S.outN k i = S.outN n id ∧ Ext w wr) (fun a b _ => (intOf b).toNat)
  case atStart => exact ⟨n, id, rfl, rfl, hn, IF.out, rfl, i2.out⟩
  case round =>
    clear d1 d2 E0 IF
    obtain ⟨k, i, rfl, rfl, hk, hi, he, hx⟩ := hrel
    have X := Lib.hid hx
    have i3 : IsExt w wr := ⟨hx⟩
    have HE := Lib.hid he
    have HI := Lib.hid hi
    clear hx he hi i2
    cases k with
    | zero =>
      go_wp2_with fail
      simp only [Exit.noGoto]
      go_ret2
      have q := HE.out.symm
      exact ⟨by rw [q]; rfl, X.out⟩
    | succ k =>
      have hk1 : (0 : Int) < ((k + 1 : Nat) : Int) := by omega
      obtain ⟨v, hv⟩ : ∃ v, v = S.get i 5 := ⟨_, rfl⟩
      have D := Lib.hid (C2.out wr i 5)
      rw [← hv] at D
      have HV := Lib.hid hv
      clear hv
      obtain ⟨vo, vn⟩ := v
      unfold val objV at *
      go_wp2_with fail
      refine D.out.mono ?_
      rintro e w3 ⟨rfl, x3⟩
      have i4 : IsExt w w3 := ⟨i3.out.trans x3⟩
      clear x3 D
      go_upto_region 5 with (fail)
      refine wp_name (fun w4 hW => ?_)
      have i5 : IsExt w w4 := ⟨by rw [hW]; exact is_ext _ _⟩
      obtain ⟨p1, p2, p3⟩ := (show Blk w4 w3.heap.size 40 #[.bool vo, .int .i64 vn] from by rw [hW]; exact Blk.new _ _ _).rules
      have BB := Lib.hid (show Blk w4 w3.heap.size 40 #[.bool vo, .int .i64 vn] from by rw [hW]; exact Blk.new _ _ _)
      clear hW
      have heq := eql_val
      have EN : Hid (MS.isNil (S.get i 5) = (vo && vn == 0)) := Lib.hid (by rw [isNil_eq, ← HV.out])
      have EO : Hid (S.outN (k + 1) i = if MS.isNil (S.get i 5) then none else if S.isFrame (S.get (S.get i 5).n 0).n then S.outN k (S.get (S.get i 5).n 0).n else none) := Lib.hid rfl
      generalize hg4 : w3.heap.size = g4 at *
      cases hb : (vo && vn == 0) with
      | true =>
        rw [hb] at EN
        refine wp_region_ext (by kernel_rfl) (by kernel_rfl) ?_
        repeat (go_big_quiet_step ((first | (go_at_call 81; exact calls_ext (C3.out _)))))
        refine wpQuiet_nil ?_
        rintro W ⟨y, rfl⟩
        go_wp2_with fail
        simp only [Exit.noGoto]
        go_ret2
        have q := HE.out.symm
        rw [EO.out, EN.out, if_pos rfl] at q
        exact ⟨by rw [q]; rfl, is_ext _ _⟩
      | false =>
        rw [hb] at EN
        refine wp_region_ext (by kernel_rfl) (by kernel_rfl) ?_
        repeat (go_big_quiet_step ((first | (go_at_call 81; exact calls_ext (C3.out _)))))
        refine wpQuiet_nil ?_
        rintro W ⟨y, hWy⟩
        have x6 : Ext w4 W := ⟨y, hWy⟩
        have i6 : IsExt w W := ⟨i5.out.trans x6⟩
        clear p1 p2 p3 hWy
        obtain ⟨p1, p2, p3⟩ := (BB.out.ext x6).rules
        clear x6 BB i5 i4
        have D := Lib.hid (C2.out W vn 0)
        go_wp2_with fail
        refine D.out.mono ?_
        rintro e w7 ⟨rfl, x7⟩
        have i7 : IsExt w w7 := ⟨i6.out.trans x7⟩
        clear x7 D p1 p2 p3
        have vv : (S.get i 5).n = vn := by rw [← HV.out]
        have EO' := EO.out
        rw [EN.out, if_neg (by decide), vv] at EO'
        clear vv EO EN
        obtain ⟨j, hj⟩ : ∃ j, j = S.get vn 0 := ⟨_, rfl⟩
        rw [← hj] at EO' ⊢
        have EOH := Lib.hid EO'
        clear EO' hj
        have D2 := Lib.hid (C1.out w7 j.n)
        have jf : (Instr.field 40 (.agg #[.bool j.obj, .int .i64 j.n]) 1).run Tryz.prog w7 = .ok (.int .i64 j.n) w7 := field_n _ _ _
        have kw : ((k + 1 : Nat) : Int) - 1 = (k : Int) := by omega
        go_wp2_with fail
        refine D2.out.mono ?_
        rintro e w8 ⟨rfl, x8⟩
        have i8 : IsExt w w8 := ⟨i7.out.trans x8⟩
        clear x8 D2 i7 i6
        cases hfj : S.isFrame j.n with
        | true =>
          have FJ := Lib.hid hfj
          clear hfj
          go_wp2_with fail
          go_roundw
          case rel => exact ⟨k, j.n, rfl, by go_num, by omega, FJ.out, by have q := EOH.out; rw [FJ.out, if_pos rfl] at q; exact q.symm.trans HE.out, i8.out⟩
          case measure => simp [intOf]
        | false =>
          have FJ := Lib.hid hfj
          clear hfj
          go_wp2_with fail
          simp only [Exit.noGoto]
          go_ret2
          have q := HE.out.symm
          rw [EOH.out, FJ.out, if_neg (by decide)] at q
          exact ⟨by rw [q]; rfl, is_ext _ _⟩
set_option maxRecDepth 100000 in
theorem fouter_neg (h : M w F m S) (id out : Int) (ho : out < 0) : Calls Tryz.prog 92 #[.pointer (some ⟨m, 0, none⟩), .int .i64 id, .int .i64 out] w fun e w' => e = .returned (.tuple #[.int .i64 0, .bool false]) ∧ Ext w w' := by
  have d1 : decide (out < 0) = true := decide_eq_true ho
  clear h
  go_enter Tryz.func92, Tryz.ntmps92
  go_wp2_with fail
  go_step3
  go_wp2_with fail
  simp only [Exit.noGoto]
  go_ret2
  exact ⟨rfl, is_ext _ _⟩
/-- what outer tells -/
def OutIs (S : MS) (id out : Int) (r : Option Int) : Prop := (∃ n : Nat, out = n ∧ n ≤ 8 ∧ S.isFrame id = true ∧ S.outN n id = r) ∨ (out < 0 ∧ r = none)
theorem fout (h : M w F m S) {id out : Int} {r : Option Int} (ho : OutIs S id out r) : Calls Tryz.prog 92 #[.pointer (some ⟨m, 0, none⟩), .int .i64 id, .int .i64 out] w fun e w' => e = .returned (.tuple #[.int .i64 (r.getD 0), .bool r.isSome]) ∧ Ext w w' := by
  rcases ho with ⟨n, rfl, hn, hf, rfl⟩ | ⟨hn, rfl⟩
  · exact fouter h id hf n hn
  · exact fouter_neg h id out hn
def tempOK (r : Option Int) (n : Int) : Bool := r.isSome && decide (0 ≤ n ∧ n < 16)
def tempV (S : MS) (r : Option Int) (n : Int) : PV := if tempOK r n then S.get (r.getD 0) (6 + n) else dV
set_option maxRecDepth 100000 in
set_option maxHeartbeats 1000000 in
/-- a slot of a frame, or of one further out -/
theorem ftemp (h : M w F m S) {id out : Int} {r : Option Int} (ho : OutIs S id out r) (n : Int) (hn : -1000 ≤ n ∧ n ≤ 1000) : Calls Tryz.prog 46 #[.pointer (some ⟨m, 0, none⟩), .int .i64 id, .int .i64 out, .int .i64 n] w fun e w' => e = .returned (.tuple #[val (tempV S r n), .bool (tempOK r n)]) ∧ Ext w w' := by
  have C1 := Lib.hid (fun W [x : IsExt w W] => fout (h.ext x.out) ho)
  have C2 := Lib.hid (fun W [x : IsExt w W] => mget (h.ext x.out) (r.getD 0) (6 + n))
  clear h ho
  have n1 := hn.1
  have n2 := hn.2
  have EV : Hid (tempV S r n = if tempOK r n then S.get (r.getD 0) (6 + n) else dV) := Lib.hid rfl
  have EO : Hid (tempOK r n = (r.isSome && decide (0 ≤ n ∧ n < 16))) := Lib.hid rfl
  generalize hj : r.getD 0 = j at *
  generalize tempV S r n = tv at *
  generalize tempOK r n = ok at *
  obtain ⟨tq, tn⟩ := tv
  clear hn hj
  by_cases hq : r.isSome = true ∧ 0 ≤ n ∧ n < 16
  · obtain ⟨hr, h0, h16⟩ := hq
    have eo : ok = true := by rw [EO.out, hr, decide_eq_true ⟨h0, h16⟩]; rfl
    rw [hr] at C1
    have ev : (⟨tq, tn⟩ : PV) = S.get j (6 + n) := by rw [EV.out, eo, if_pos rfl]
    rw [← ev] at C2
    clear hr ev EV EO
    subst eo
    have d1 : decide (n < 0) = false := decide_eq_false (by omega)
    have d2 : decide (16 ≤ n) = false := decide_eq_false (by omega)
    unfold val at *
    go_enter Tryz.func46, Tryz.ntmps46
    go_wp2_with fail
    refine (C1.out _).mono ?_
    rintro e w1 ⟨rfl, x1⟩
    have i1 : IsExt w w1 := ⟨(is_ext w _).trans x1⟩
    have B1 := Lib.hid ((Blk.new w 40 #[.bool false, .int .i64 0]).ext x1)
    clear x1 C1
    obtain ⟨p1, p2, p3⟩ := B1.out.rules
    go_wp2_with fail
    refine (C2.out _).mono ?_
    rintro e w2 ⟨rfl, x2⟩
    have i2 : IsExt w w2 := ⟨(is_ext w _).trans x2⟩
    clear p1 p2 p3
    obtain ⟨p1, p2, p3⟩ := (B1.out.ext ((is_ext w1 _).trans x2)).rules
    clear x2 C2
    go_wp2_with fail
    refine bodyPost_ret (v := .tuple #[.agg #[.bool tq, .int .i64 tn], .bool true]) (by simp [results, Tryz.results46, go_sem, p1]) rfl ⟨rfl, ?_⟩
    exact (i2.out.setNew (p := ⟨w.heap.size, 0, none⟩) (Nat.le_refl _) _).setNew (p := ⟨w.heap.size, 1, none⟩) (Nat.le_refl _) _
  · have eo : ok = false := by
      rw [EO.out, Bool.eq_false_iff]
      intro hh
      rw [Bool.and_eq_true] at hh
      exact hq ⟨hh.1, of_decide_eq_true hh.2⟩
    have ev : (⟨tq, tn⟩ : PV) = ⟨false, 0⟩ := by rw [EV.out, eo]; rfl
    injection ev with e1 e2
    subst e1 e2 eo
    have HQ : Hid (r.isSome = true → 0 ≤ n → ¬ n < 16) := Lib.hid (fun a b c => hq ⟨a, b, c⟩)
    clear hq C2 EV EO
    generalize hs : r.isSome = s at *
    unfold val at *
    go_enter Tryz.func46, Tryz.ntmps46
    go_wp2_with fail
    refine (C1.out _).mono ?_
    rintro e w1 ⟨rfl, x1⟩
    have i1 : IsExt w w1 := ⟨(is_ext w _).trans x1⟩
    obtain ⟨p1, p2, p3⟩ := ((Blk.new w 40 #[.bool false, .int .i64 0]).ext x1).rules
    clear x1 C1 hs
    cases s with
    | false =>
      go_wp2_with fail
      refine bodyPost_ret (v := .tuple #[.agg #[.bool false, .int .i64 0], .bool false]) (by simp [results, Tryz.results46, go_sem, p1]) rfl ⟨rfl, ?_⟩
      exact (i1.out.setNew (p := ⟨w.heap.size, 0, none⟩) (Nat.le_refl _) _).setNew (p := ⟨w.heap.size, 1, none⟩) (Nat.le_refl _) _
    | true =>
      have hq := HQ.out rfl
      clear HQ
      by_cases h0 : n < 0
      · have d1 : decide (n < 0) = true := decide_eq_true h0
        go_wp2_with fail
        refine bodyPost_ret (v := .tuple #[.agg #[.bool false, .int .i64 0], .bool false]) (by simp [results, Tryz.results46, go_sem, p1]) rfl ⟨rfl, ?_⟩
        exact (i1.out.setNew (p := ⟨w.heap.size, 0, none⟩) (Nat.le_refl _) _).setNew (p := ⟨w.heap.size, 1, none⟩) (Nat.le_refl _) _
      · have d1 : decide (n < 0) = false := decide_eq_false h0
        have d2 : decide (16 ≤ n) = true := decide_eq_true (by have := hq (by omega); omega)
        clear hq h0
        go_wp2_with fail
        refine bodyPost_ret (v := .tuple #[.agg #[.bool false, .int .i64 0], .bool false]) (by simp [results, Tryz.results46, go_sem, p1]) rfl ⟨rfl, ?_⟩
        exact (i1.out.setNew (p := ⟨w.heap.size, 0, none⟩) (Nat.le_refl _) _).setNew (p := ⟨w.heap.size, 1, none⟩) (Nat.le_refl _) _
set_option maxRecDepth 100000 in
set_option maxHeartbeats 1000000 in
/-- a slot turned -/
theorem fsettemp (h : M w F m S) (hp : S.phase ≠ 1) {id out j : Int} (ho : OutIs S id out (some j)) (n : Int) (hn : 0 ≤ n ∧ n < 16) (v : PV) : Calls Tryz.prog 53 #[.pointer (some ⟨m, 0, none⟩), .int .i64 id, .int .i64 out, .int .i64 n, val v] w fun e w' => e = .returned (.bool (S.setOK j (6 + n) v)) ∧ M w' F m (S.set j (6 + n) v) ∧ Keep F w w' := by
  have C1 := Lib.hid (fun W [x : IsExt w W] => fout (h.ext x.out) ho)
  have C2 := Lib.hid (fun W [x : IsExt w W] => mset (h.ext x.out) hp j (6 + n) v)
  have n1 := hn.1
  have n2 := hn.2
  have d1 : decide (0 ≤ n) = true := decide_eq_true (by omega)
  have d2 : decide (n < 16) = true := decide_eq_true (by omega)
  obtain ⟨vo, vn⟩ := v
  clear h ho hn
  generalize S.setOK j (6 + n) ⟨vo, vn⟩ = ok at *
  generalize S.set j (6 + n) ⟨vo, vn⟩ = T at *
  unfold val at *
  go_enter Tryz.func53, Tryz.ntmps53
  go_wp2_with fail
  refine (C1.out _).mono ?_
  rintro e w1 ⟨rfl, x1⟩
  have i1 : IsExt w w1 := ⟨(is_ext w _).trans x1⟩
  obtain ⟨p1, p2, p3⟩ := ((Blk.new w 40 #[.bool vo, .int .i64 vn]).ext x1).rules
  clear x1 C1
  go_wp2_with fail
  refine (C2.out w1).mono ?_
  rintro e w2 ⟨rfl, m2, k2⟩
  have M2 := Lib.hid m2
  have K2 := Lib.hid ((Keep.of_ext i1.out F).trans k2)
  clear m2 k2 C2
  go_wp2_with fail
  go_ret
  exact ⟨rfl, M2.out, K2.out⟩
end
end Go.Proofs.YtnhijjcplnomgaaGreat.World
