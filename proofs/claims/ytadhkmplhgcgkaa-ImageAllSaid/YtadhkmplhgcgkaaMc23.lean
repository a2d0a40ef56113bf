/-
  Reach16, as one text (a claim has at most 60 files).
-/
import Derived.Test.YtadhkmplhgcgkaaMc20
import Derived.Test.YtadhkmplhgcgkaaMc22
namespace Go.Proofs.Ytadhkmplhgcgkaa.World
open Go.RowKit Go.Proofs.Ytadhkmplhgcgkaa.Plain
set_option linter.unusedVariables false
attribute [local go_sem ↓] Go.wp_at_zero Go.wp_at_succ
def eqInts (l l' : List Int) : Bool := decide (l.length = l'.length) && allTo (fun i => l.getD i 0 == l'.getD i 0) l.length
def eqStrs (l l' : List ByteArray) : Bool := decide (l.length = l'.length) && allTo (fun i => sAt l i == sAt l' i) l.length
def eqWaits (l l' : List (Int × Int)) : Bool := decide (l.length = l'.length) && allTo (fun i => eqP (wAt l i) (wAt l' i)) l.length
def eqW (A B : PW) : Bool := A.last == B.last && (A.R.proc == B.R.proc && (A.R.frame == B.R.frame && (A.R.out == B.R.out && (A.R.inp == B.R.inp && (A.R.how == B.R.how && (A.R.exit == B.R.exit && (eqL A.L B.L && (eqInts A.R.ready B.R.ready && (eqWaits A.R.wait B.R.wait && (eqInts A.R.due B.R.due && eqStrs A.R.snaps B.R.snaps))))))))))
theorem NewW.ext {w w' : World} {b : Nat} {W : PW} {x : WV} (h : NewW w b W x) (y : Ext w w') : NewW w' b W x := ⟨h.L.ext y, fun i hi => (h.fs i hi).ext y, h.ap, h.dead.ext y, h.R.ext y, h.nums⟩
theorem NewW.kt {w w' : World} {b : Nat} {W : PW} {x : WV} {ts : List TypeId} (h : NewW w b W x) (k : KT ts w w') (h1 : 3 ∉ ts) (h2 : 75 ∉ ts) (h3 : 9 ∉ ts) (h4 : 57 ∉ ts) (h5 : 37 ∉ ts) (h6 : 4 ∉ ts) : NewW w' b W x :=
  ⟨h.L.kt k h4, fun i hi => (h.fs i hi).kt k h5, h.ap, h.dead.kt k h6, h.R.kt k h1 h2 h3, h.nums⟩
theorem NewW.base {w : World} {b b' : Nat} {W : PW} {x : WV} (h : NewW w b W x) (hb : b' ≤ b) : NewW w b' W x := ⟨h.L.base hb, fun i hi => (h.fs i hi).base hb, h.ap, h.dead.base hb, h.R.base hb, h.nums⟩
theorem kt_row {w : World} {g : Nat} {t : TypeId} {cs c : Array Value} (h : Blk w g t cs) : KT [t] w (w.setRow g c) := Keep.mono (keep_setRow w g c) (fun j e => by subst e; exact ⟨_, _, by simp, h⟩)
/-- the cells of a world's canon, in new memory -/
def CanP (b : Nat) (A : PW) (cs : Array Value) (w : World) : Prop := ∃ l x, RchL A.L.length (nxW A true) (rootsOf A.R) l ∧ cs = cellsW (canonW A l) x ∧ NewW w b (canonW A l) x
theorem canP_ok (b : Nat) (A : PW) : RowOk 31 (CanP b A) :=
  ⟨fun cs W W' h y => by obtain ⟨l, x, h1, h2, h3⟩ := h; exact ⟨l, x, h1, h2, h3.ext y⟩,
   fun cs W g old c h bk => by obtain ⟨l, x, h1, h2, h3⟩ := h; exact ⟨l, x, h1, h2, h3.kt (kt_row bk) (by decide) (by decide) (by decide) (by decide) (by decide) (by decide)⟩⟩
theorem slice_one {A : Option Addr} {n c : Nat} : (Value.slice A n c).oneCell' = true := rfl
theorem NewW.row {w : World} {b : Nat} {W : PW} {x : WV} (h : NewW w b W x) : (cellsW W x).size = 13 ∧ (cellsW W x).all (·.oneCell') = true := by
  obtain ⟨vL, fs, vD, vRe, vWa, vDu, vSn⟩ := x
  obtain ⟨A1, c1, e1⟩ := Own.form h.L
  obtain ⟨A2, c2, e2⟩ := Own.form h.dead
  obtain ⟨A3, c3, e3⟩ := Own.form h.R.re
  obtain ⟨A4, c4, e4⟩ := Own.form h.R.wa
  obtain ⟨A5, c5, e5⟩ := Own.form h.R.du
  obtain ⟨A6, c6, e6⟩ := Own.form h.R.sn
  simp only at e1 e2 e3 e4 e5 e6
  subst e1 e2 e3 e4 e5 e6
  exact ⟨rfl, by simp [cellsW, Value.oneCell']⟩
theorem canP_row {b : Nat} {A : PW} {cs : Array Value} {w : World} (h : CanP b A cs w) : RowP 13 (CanP b A) cs w := by
  obtain ⟨l, x, h1, rfl, h3⟩ := h
  exact ⟨h3.row.1, h3.row.2, l, x, h1, rfl, h3⟩
/-- the cells are these -/
def IsP (c cs : Array Value) (_ : World) : Prop := cs = c
theorem isP_ok (T : TypeId) (c : Array Value) : RowOk T (IsP c) := ⟨fun _ _ _ h _ => h, fun _ _ _ _ _ h _ => h⟩
def zeroRc : Array Value := #[.int .i64 0, .int .i64 0, .slice none 0 0, .slice none 0 0, .slice none 0 0, .string ByteArray.empty, .string ByteArray.empty, .int .i64 0, .int .i64 0, .slice none 0 0]
def frS3 (q : Nat) (u s : Nat → Value) : Act := { tmps := #[u 0, u 1, .pointer (some ⟨q, 0, none⟩), .pointer (some ⟨q + 1, 0, none⟩), u 4, s 4, s 5, u 7, u 8, u 9, u 10, u 11, u 12, u 13, u 14, u 15, u 16, s 0, s 1, s 2, s 3, u 21, u 22, u 23, u 24, u 25, u 26, u 27, u 28, u 29, u 30, u 31, u 32, u 33, u 34, u 35, u 36, u 37, u 38, u 39, u 40, u 41, u 42, u 43, u 44, u 45, u 46, u 47, u 48, u 49, u 50, u 51, u 52, u 53, u 54, u 55, u 56, u 57, u 58, u 59, u 60, u 61, u 62, u 63, u 64, u 65, u 66, u 67, u 68, u 69, u 70, u 71, u 72, u 73, u 74, u 75, u 76, u 77, u 78, u 79, u 80, u 81, u 82, u 83, u 84, u 85, u 86, u 87, u 88, u 89, u 90, u 91, u 92, u 93, u 94, u 95, u 96, u 97, u 98, u 99, u 100, u 101, u 102, u 103, u 104], defers := [] }
def frS4 (g g' : Nat) (u s : Nat → Value) : Act := { tmps := #[u 0, u 1, u 2, u 3, u 4, .pointer (some ⟨g, 0, none⟩), .pointer (some ⟨g', 0, none⟩), s 4, s 5, u 9, u 10, u 11, u 12, u 13, u 14, u 15, u 16, u 17, u 18, u 19, u 20, s 0, s 1, s 2, s 3, u 25, u 26, u 27, u 28, u 29, u 30, u 31, u 32, u 33, u 34, u 35, u 36, u 37, u 38, u 39, u 40, u 41, u 42, u 43, u 44, u 45, u 46, u 47, u 48, u 49, u 50, u 51, u 52, u 53, u 54, u 55, u 56, u 57, u 58, u 59, u 60, u 61, u 62, u 63, u 64, u 65, u 66, u 67, u 68, u 69, u 70, u 71, u 72, u 73, u 74, u 75, u 76, u 77, u 78, u 79, u 80, u 81, u 82, u 83, u 84, u 85, u 86, u 87, u 88, u 89, u 90, u 91, u 92, u 93, u 94, u 95, u 96, u 97, u 98, u 99, u 100, u 101, u 102, u 103, u 104], defers := [] }
section
variable {w : World}
theorem equalNums {v v' : Value} {l l' : List Int} (h : IntsAt w v l) (h' : IntsAt w v' l') : Calls Try.prog 57 #[v, v'] w fun e w' => e = .returned (.bool (eqInts l l')) ∧ Ext w w' :=
  equalI h h' (fun i => l.getD i 0) (fun i => l'.getD i 0) (fun _ => rfl) (fun _ => rfl)
theorem equalTexts {v v' : Value} {l l' : List ByteArray} (h : StrsAt w v l) (h' : StrsAt w v' l') : Calls Try.prog 59 #[v, v'] w fun e w' => e = .returned (.bool (eqStrs l l')) ∧ Ext w w' :=
  equalS h h' (fun i => sAt l i) (fun i => sAt l' i) (fun _ => rfl) (fun _ => rfl)
theorem equalWaits {v v' : Value} {l l' : List (Int × Int)} (h : WaitsAt w v l) (h' : WaitsAt w v' l') : Calls Try.prog 58 #[v, v'] w fun e w' => e = .returned (.bool (eqWaits l l')) ∧ Ext w w' :=
  equalW h h' (fun i => eqP (wAt l i) (wAt l' i)) (fun i _ _ W => wait_ne _ _ W)
theorem canonP {x : WV} {A : PW} (h : WorldAt w x A) (hc : checkB A = true) : Calls Try.prog 14 #[.agg (cellsW A x)] w fun e w' => ∃ cs, e = .returned (.agg cs) ∧ CanP w.heap.size A cs w' ∧ Ext w w' :=
  (canon_ h).mono (fun e w' ⟨cs, e1, _, e2, e3⟩ => by obtain ⟨l, x', r1, r2, r3⟩ := e2 hc; exact ⟨cs, e1, ⟨l, x', r1, r2, r3⟩, e3⟩)
theorem bytes_eq {s t : ByteArray} (h : (s == t) = true) : s = t := by
  rw [beq_toListBytes, beq_iff_eq, ByteArray.toList_eq, ByteArray.toList_eq] at h
  obtain ⟨a⟩ := s
  obtain ⟨b⟩ := t
  congr 1
  exact Array.toList_inj.1 h
theorem bytes_ne {s t : ByteArray} (h : s ≠ t) : (s == t) = false := by
  cases e : (s == t) with
  | true => exact absurd (bytes_eq e) h
  | false => rfl
theorem bytes_refl (s : ByteArray) : (s == s) = true := by rw [beq_toListBytes]; exact beq_self_eq_true _
def SameP (w : World) (WA WB : PW) (e : Ending) (w' : World) : Prop :=
  ∃ r, e = .returned (.bool r) ∧ (checkB WA = false → r = false) ∧ (checkB WB = false → r = false) ∧
      (checkB WA = true → checkB WB = true → ∃ la lb, RchL WA.L.length (nxW WA true) (rootsOf WA.R) la ∧ RchL WB.L.length (nxW WB true) (rootsOf WB.R) lb ∧ r = eqW (canonW WA la) (canonW WB lb)) ∧ Ext w w'
theorem SameP.noA {w w' : World} {WA WB : PW} (h : checkB WA = false) (x : Ext w w') : SameP w WA WB (.returned (.bool false)) w' := ⟨false, rfl, fun _ => rfl, fun _ => rfl, fun h' => absurd h' (by rw [h]; decide), x⟩
theorem SameP.noB {w w' : World} {WA WB : PW} (h : checkB WB = false) (x : Ext w w') : SameP w WA WB (.returned (.bool false)) w' := ⟨false, rfl, fun _ => rfl, fun _ => rfl, fun _ h' => absurd h' (by rw [h]; decide), x⟩
theorem SameP.yes {w w' : World} {WA WB : PW} {la lb : List Bool} {r : Bool} (hA : checkB WA = true) (hB : checkB WB = true) (ra : RchL WA.L.length (nxW WA true) (rootsOf WA.R) la) (rb : RchL WB.L.length (nxW WB true) (rootsOf WB.R) lb) (h : r = eqW (canonW WA la) (canonW WB lb)) (x : Ext w w') : SameP w WA WB (.returned (.bool r)) w' :=
  ⟨r, rfl, fun h => absurd h (by rw [hA]; decide), fun h => absurd h (by rw [hB]; decide), fun _ _ => ⟨la, lb, ra, rb, h⟩, x⟩
set_option maxRecDepth 100000 in
set_option maxHeartbeats 8000000 in
theorem same_ {x y : WV} {WA WB : PW} (hA : WorldAt w x WA) (hB : WorldAt w y WB) :
    Calls Try.prog 26 #[.agg (cellsW WA x), .agg (cellsW WB y)] w fun e w' => SameP w WA WB e w' := by
  have HA := Lib.hid hA
  have HB := Lib.hid hB
  obtain ⟨vAL, fsA, vAD, vARe, vAWa, vADu, vASn⟩ := x
  obtain ⟨vBL, fsB, vBD, vBRe, vBWa, vBDu, vBSn⟩ := y
  obtain ⟨AAL, cAL, eAL, _, _⟩ := hA.L.row.form
  replace eAL : vAL = .slice AAL WA.L.length cAL := eAL
  subst eAL
  obtain ⟨AAD, cAD, eAD, _, _⟩ := Row.form hA.dead
  replace eAD : vAD = .slice AAD WA.dead.length cAD := eAD
  subst eAD
  obtain ⟨AARe, cARe, eARe, _, _⟩ := Row.form hA.ready
  replace eARe : vARe = .slice AARe WA.R.ready.length cARe := eARe
  subst eARe
  obtain ⟨AAWa, cAWa, eAWa, _, _⟩ := Row.form hA.wait
  replace eAWa : vAWa = .slice AAWa WA.R.wait.length cAWa := eAWa
  subst eAWa
  obtain ⟨AADu, cADu, eADu, _, _⟩ := Row.form hA.due
  replace eADu : vADu = .slice AADu WA.R.due.length cADu := eADu
  subst eADu
  obtain ⟨AASn, cASn, eASn, _, _⟩ := Row.form hA.snaps
  replace eASn : vASn = .slice AASn WA.R.snaps.length cASn := eASn
  subst eASn
  obtain ⟨ABL, cBL, eBL, _, _⟩ := hB.L.row.form
  replace eBL : vBL = .slice ABL WB.L.length cBL := eBL
  subst eBL
  obtain ⟨ABD, cBD, eBD, _, _⟩ := Row.form hB.dead
  replace eBD : vBD = .slice ABD WB.dead.length cBD := eBD
  subst eBD
  obtain ⟨ABRe, cBRe, eBRe, _, _⟩ := Row.form hB.ready
  replace eBRe : vBRe = .slice ABRe WB.R.ready.length cBRe := eBRe
  subst eBRe
  obtain ⟨ABWa, cBWa, eBWa, _, _⟩ := Row.form hB.wait
  replace eBWa : vBWa = .slice ABWa WB.R.wait.length cBWa := eBWa
  subst eBWa
  obtain ⟨ABDu, cBDu, eBDu, _, _⟩ := Row.form hB.due
  replace eBDu : vBDu = .slice ABDu WB.R.due.length cBDu := eBDu
  subst eBDu
  obtain ⟨ABSn, cBSn, eBSn, _, _⟩ := Row.form hB.snaps
  replace eBSn : vBSn = .slice ABSn WB.R.snaps.length cBSn := eBSn
  subst eBSn
  have KA : Hid (∀ W2, Ext w W2 → Calls Try.prog 24 #[.agg (cellsW WA _)] W2 _) := Lib.hid (fun W2 (e : Ext w W2) => check (hA.ext e))
  have KB : Hid (∀ W2, Ext w W2 → Calls Try.prog 24 #[.agg (cellsW WB _)] W2 _) := Lib.hid (fun W2 (e : Ext w W2) => check (hB.ext e))
  have NA : Hid (∀ W2, Ext w W2 → checkB WA = true → Calls Try.prog 14 #[.agg (cellsW WA _)] W2 _) := Lib.hid (fun W2 (e : Ext w W2) hc => canonP (hA.ext e) hc)
  have NB : Hid (∀ W2, Ext w W2 → checkB WB = true → Calls Try.prog 14 #[.agg (cellsW WB _)] W2 _) := Lib.hid (fun W2 (e : Ext w W2) hc => canonP (hB.ext e) hc)
  unfold cellsW at KA KB
  clear hA hB
  unfold cellsW
  go_enter Try.func26, Try.ntmps26
  go_upto_region 1 with (fail)
  refine wp_name (fun W1 hW => ?_)
  have BA : Blk W1 w.heap.size 31 #[.slice AAL WA.L.length cAL, .slice AAD WA.dead.length cAD, .int .i64 WA.last, .int .i64 WA.R.proc, .int .i64 WA.R.frame, .slice AARe WA.R.ready.length cARe, .slice AAWa WA.R.wait.length cAWa, .slice AADu WA.R.due.length cADu, .string WA.R.out, .string WA.R.inp, .int .i64 WA.R.how, .int .i64 WA.R.exit, .slice AASn WA.R.snaps.length cASn] := (Blk.new w _ _).alloc' hW
  have BB : Blk W1 (w.heap.size + 1) 31 #[.slice ABL WB.L.length cBL, .slice ABD WB.dead.length cBD, .int .i64 WB.last, .int .i64 WB.R.proc, .int .i64 WB.R.frame, .slice ABRe WB.R.ready.length cBRe, .slice ABWa WB.R.wait.length cBWa, .slice ABDu WB.R.due.length cBDu, .string WB.R.out, .string WB.R.inp, .int .i64 WB.R.how, .int .i64 WB.R.exit, .slice ABSn WB.R.snaps.length cBSn] := by have := Blk.new' hW; simpa only [World.size_alloc] using this
  have X1 := Lib.hid (((Ext.refl w).alloc _).alloc' hW)
  clear hW
  obtain ⟨p1, p2, p3⟩ := BA.rules
  obtain ⟨q1, q2, q3⟩ := BB.rules
  have BAH := Lib.hid BA
  have BBH := Lib.hid BB
  clear BA BB
  generalize w.heap.size = q at *
  cases hcA : checkB WA with
  | false =>
    rw [hcA] at KA
    have HCA := Lib.hid hcA
    clear hcA KB NA NB HA HB
    go_wp2_with fail
    refine (KA.out _ X1.out).mono ?_
    rintro e w2 ⟨rfl, x2⟩
    have X2 := Lib.hid (X1.out.trans x2)
    clear x2
    go_wp2_with fail
    go_ret
    exact SameP.noA HCA.out X2.out
  | true =>
    rw [hcA] at KA
    have HCA := Lib.hid hcA
    clear hcA
    cases hcB : checkB WB with
    | false =>
      rw [hcB] at KB
      have HCB := Lib.hid hcB
      clear hcB NA NB HA HB
      go_wp2_with fail
      refine (KA.out _ X1.out).mono ?_
      rintro e w2 ⟨rfl, x2⟩
      have X2 := Lib.hid (X1.out.trans x2)
      replace BAH := Lib.hid (BAH.out.ext x2)
      replace BBH := Lib.hid (BBH.out.ext x2)
      clear x2 p1 p2 p3 q1 q2 q3
      obtain ⟨p1, p2, p3⟩ := BAH.out.rules
      obtain ⟨q1, q2, q3⟩ := BBH.out.rules
      go_wp2_with fail
      refine (KB.out _ X2.out).mono ?_
      rintro e w3 ⟨rfl, x3⟩
      have X3 := Lib.hid (X2.out.trans x3)
      clear x3
      go_wp2_with fail
      go_ret
      exact SameP.noB HCB.out X3.out
    | true =>
      rw [hcB] at KB
      have HCB := Lib.hid hcB
      clear hcB
      go_wp2_with fail
      refine (KA.out _ X1.out).mono ?_
      rintro e w2 ⟨rfl, x2⟩
      have X2 := Lib.hid (X1.out.trans x2)
      replace BAH := Lib.hid (BAH.out.ext x2)
      replace BBH := Lib.hid (BBH.out.ext x2)
      clear x2 p1 p2 p3 q1 q2 q3
      obtain ⟨p1, p2, p3⟩ := BAH.out.rules
      obtain ⟨q1, q2, q3⟩ := BBH.out.rules
      go_wp2_with fail
      refine (KB.out _ X2.out).mono ?_
      rintro e w3 ⟨rfl, x3⟩
      have X3 := Lib.hid (X2.out.trans x3)
      replace BAH := Lib.hid (BAH.out.ext x3)
      replace BBH := Lib.hid (BBH.out.ext x3)
      clear x3 p1 p2 p3 q1 q2 q3 KA KB w2 X2
      obtain ⟨p1, p2, p3⟩ := BAH.out.rules
      obtain ⟨q1, q2, q3⟩ := BBH.out.rules
      go_upto_region 3 with (fail)
      have okA := Lib.hid (canP_ok w3.heap.size WA)
      have okB := Lib.hid (canP_ok w3.heap.size WB)
      refine wp_any_act (fun A0 hA => ?_)
      have eA : A0 = frS3 q (fun q => A0.tmps.getD q undef) (fun k => [A0.tmps.getD 17 undef, A0.tmps.getD 18 undef, A0.tmps.getD 19 undef, A0.tmps.getD 20 undef, A0.tmps.getD 5 undef, A0.tmps.getD 6 undef].getD k undef) := by rw [hA]; rfl
      clear hA
      generalize (fun k => [A0.tmps.getD 17 undef, A0.tmps.getD 18 undef, A0.tmps.getD 19 undef, A0.tmps.getD 20 undef, A0.tmps.getD 5 undef, A0.tmps.getD 6 undef].getD k undef) = s0 at eA
      generalize (fun q => A0.tmps.getD q undef) = uu at eA
      subst eA
      refine wp_region_inv (Inv := fun listed a W2 => ∃ L : Nat → Bool, (∀ k, listed.getD k false = L k) ∧ ∃ s : Nat → Value, a = frS3 q uu s ∧ listed.size = 8 ∧ TwoI w3 13 31 zeroWc (CanP w3.heap.size WA) (CanP w3.heap.size WB) (.agg #[.slice AAL WA.L.length cAL, .slice AAD WA.dead.length cAD, .int .i64 WA.last, .int .i64 WA.R.proc, .int .i64 WA.R.frame, .slice AARe WA.R.ready.length cARe, .slice AAWa WA.R.wait.length cAWa, .slice AADu WA.R.due.length cADu, .string WA.R.out, .string WA.R.inp, .int .i64 WA.R.how, .int .i64 WA.R.exit, .slice AASn WA.R.snaps.length cASn]) (.agg #[.slice ABL WB.L.length cBL, .slice ABD WB.dead.length cBD, .int .i64 WB.last, .int .i64 WB.R.proc, .int .i64 WB.R.frame, .slice ABRe WB.R.ready.length cBRe, .slice ABWa WB.R.wait.length cBWa, .slice ABDu WB.R.due.length cBDu, .string WB.R.out, .string WB.R.inp, .int .i64 WB.R.how, .int .i64 WB.R.exit, .slice ABSn WB.R.snaps.length cBSn]) L s W2) (by kernel_rfl) ?_ ?_ ?_
      · refine ⟨fun _ => false, fun k => ?_, s0, rfl, by simp, TwoI.start _ _ _ _ _ _ _ _ _ (Ext.refl _).drew⟩
        rw [Array.getD_eq_getD_getElem?, Array.getElem?_replicate]; split <;> rfl
      · rintro listed a W2 ii ⟨L, hL, s, rfl, hsz, I⟩ hi
        obtain ⟨hlt, hnot, hdep⟩ := (ready_iff _ _).1 hi
        have hiN : ii < 8 := hlt
        have casesN : ii = 0 ∨ ii = 1 ∨ ii = 2 ∨ ii = 3 ∨ ii = 4 ∨ ii = 5 ∨ ii = 6 ∨ ii = 7 := by omega
        have hn0 : L ii = false := by rw [← hL ii]; exact not_bit hnot
        clear hi hlt hiN hnot
        rcases casesN with rfl | rfl | rfl | rfl | rfl | rfl | rfl | rfl
        · -- operation 0
          simp only [Region.binds, listed_bit hL] at hdep
          have R1 := (BAH.out.ext I.x).cell
          have I1 := Lib.hid I
          unfold frS3
          refine wpOp_step rfl (fun K' hK => ?_)
          go_simp
          exact hK _ _ ⟨_, bit_set hL hsz 0 (by omega), _, by first | rfl | (simp [frS3, put2]; done) | (simp [frS3, put2]; rfl), by simpa using hsz, I1.out.op0⟩
        · -- operation 1
          simp only [Region.binds, listed_bit hL] at hdep
          have d0 : L 0 = true := by first | simpa [hL] using hdep | (simp [hL, Region.binds] at hdep; simp [hdep])
          have e0 := I.v0 d0
          have CN := NA.out _ (X3.out.trans I.x) HCA.out
          have IX := Lib.hid I
          clear I
          unfold cellsW at CN
          unfold frS3
          refine wpOp_step rfl (fun K' hK => ?_)
          rw [e0]
          go_simp
          refine CN.mono ?_
          rintro e w4 ⟨cs, rfl, hcs, x4⟩
          have hcs' : CanP w3.heap.size WA cs w4 := by obtain ⟨l, xx, r1, r2, r3⟩ := hcs; exact ⟨l, xx, r1, r2, r3.base IX.out.x.below.size⟩
          exact hK _ _ ⟨_, bit_set hL hsz 1 (by omega), _, by first | rfl | (simp [put2, e0]; done) | (simp [frS3, put2, e0]; rfl), by simpa using hsz, (IX.out.ext okA.out okB.out x4).op1 (canP_row hcs')⟩
        · -- operation 2
          simp only [Region.binds, listed_bit hL] at hdep
          have R1 := (BBH.out.ext I.x).cell
          have I1 := Lib.hid I
          unfold frS3
          refine wpOp_step rfl (fun K' hK => ?_)
          go_simp
          exact hK _ _ ⟨_, bit_set hL hsz 2 (by omega), _, by first | rfl | (simp [frS3, put2]; done) | (simp [frS3, put2]; rfl), by simpa using hsz, I1.out.op2⟩
        · -- operation 3
          simp only [Region.binds, listed_bit hL] at hdep
          have d2 : L 2 = true := by first | simpa [hL] using hdep | (simp at hdep; simp [hdep])
          have e2 := I.v2 d2
          have CN := NB.out _ (X3.out.trans I.x) HCB.out
          have IX := Lib.hid I
          clear I
          unfold cellsW at CN
          unfold frS3
          refine wpOp_step rfl (fun K' hK => ?_)
          rw [e2]
          go_simp
          refine CN.mono ?_
          rintro e w4 ⟨cs, rfl, hcs, x4⟩
          have hcs' : CanP w3.heap.size WB cs w4 := by obtain ⟨l, xx, r1, r2, r3⟩ := hcs; exact ⟨l, xx, r1, r2, r3.base IX.out.x.below.size⟩
          exact hK _ _ ⟨_, bit_set hL hsz 3 (by omega), _, by first | rfl | (simp [put2, e2]; done) | (simp [frS3, put2, e2]; rfl), by simpa using hsz, (IX.out.ext okA.out okB.out x4).op3 (canP_row hcs')⟩
        · -- operation 4
          simp only [Region.binds, listed_bit hL] at hdep
          unfold frS3
          refine wpOp_step rfl (fun K' hK => ?_)
          go_simp
          exact hK _ _ ⟨_, bit_set hL hsz 4 (by omega), _, by first | rfl | (simp [frS3, put2, ptr2]; done) | (simp [frS3, put2, ptr2]; rfl), by simpa using hsz, I.op4 okA.out okB.out hn0⟩
        · -- operation 5
          simp only [Region.binds, listed_bit hL] at hdep
          unfold frS3
          refine wpOp_step rfl (fun K' hK => ?_)
          go_simp
          exact hK _ _ ⟨_, bit_set hL hsz 5 (by omega), _, by first | rfl | (simp [frS3, put2, ptr2]; done) | (simp [frS3, put2, ptr2]; rfl), by simpa using hsz, I.op5 okA.out okB.out hn0⟩
        · -- operation 6
          simp only [Region.binds, listed_bit hL] at hdep
          have d4 : L 4 = true := by first | simpa [hL] using hdep | (simp at hdep; simp [hdep])
          have d1 : L 1 = true := by first | simpa [hL] using hdep | (simp at hdep; simp [hdep])
          obtain ⟨g, eg, hg, bg⟩ := I.a4 d4 hn0
          obtain ⟨cs, ec, rc⟩ := I.v1 d1
          refine wpOp_step rfl (fun K' hK => ?_)
          rw [if_pos (by rfl)]
          refine wp_store_row _ _ _ rfl g cs (by show s 4 = _; exact eg) (by show s 1 = _; exact ec) _ _ bg (by rw [rc.size]; kernel_rfl) (by rw [rc.size]; rfl) rc.one (hK _ _ ?_)
          exact ⟨_, bit_set hL hsz 6 (by omega), s, rfl, by simpa using hsz, I.op6 okA.out okB.out hn0 d4 eg hg bg rc⟩
        · -- operation 7
          simp only [Region.binds, listed_bit hL] at hdep
          have d5 : L 5 = true := by first | simpa [hL] using hdep | (simp at hdep; simp [hdep])
          have d3 : L 3 = true := by first | simpa [hL] using hdep | (simp at hdep; simp [hdep])
          obtain ⟨g, eg, hg, bg⟩ := I.a5 d5 hn0
          obtain ⟨cs, ec, rc⟩ := I.v3 d3
          refine wpOp_step rfl (fun K' hK => ?_)
          rw [if_pos (by rfl)]
          refine wp_store_row _ _ _ rfl g cs (by show s 5 = _; exact eg) (by show s 3 = _; exact ec) _ _ bg (by rw [rc.size]; kernel_rfl) (by rw [rc.size]; rfl) rc.one (hK _ _ ?_)
          exact ⟨_, bit_set hL hsz 7 (by omega), s, rfl, by simpa using hsz, I.op7 okA.out okB.out hn0 d5 eg hg bg rc⟩
      · rintro listed a W2 ⟨L, hL, s, rfl, hsz, I⟩ hr
        have ALL : ∀ i, i < 8 → L i = true := fun i hi => by rw [← hL i]; exact all_listed (by kernel_rfl) hsz hr i hi
        obtain ⟨g, g', cs, cs', eg, eg', hg, hg', hgg, bg, bg', rc, rc', xg⟩ := I.done ALL
        clear I hL ALL hr hsz
        obtain ⟨la, xa, ra, ea, na⟩ := rc.p
        obtain ⟨lb, xb, rb, eb, nb⟩ := rc'.p
        subst ea eb
        have ATA := Lib.hid na.at_
        have ATB := Lib.hid nb.at_
        have RA := Lib.hid ra
        have RB := Lib.hid rb
        have X4 := Lib.hid (X3.out.trans xg)
        have GOAL : Hid (∀ (r : Bool) (w' : World), r = eqW (canonW WA la) (canonW WB lb) → Ext W2 w' → SameP w WA WB (.returned (.bool r)) w') := Lib.hid (fun r w' h2 h3 => SameP.yes HCA.out HCB.out RA.out RB.out h2 (X4.out.trans h3))
        clear ra rb rc rc' na nb RA RB HCA HCB X3 X4 NA NB okA okB HA HB BAH BBH p1 p2 p3 q1 q2 q3 xg
        have BGH := Lib.hid bg
        have BGH' := Lib.hid bg'
        clear bg bg'
        unfold frS3
        rw [eg, eg']
        unfold ptr2
        clear eg eg'
        generalize canonW WA la = CA at *
        obtain ⟨wAL, gsA, wAD, wARe, wAWa, wADu, wASn⟩ := xa
        obtain ⟨BAL, dAL, eqAL, _, _⟩ := ATA.out.L.row.form
        replace eqAL : wAL = .slice BAL CA.L.length dAL := eqAL
        subst eqAL
        obtain ⟨BAD, dAD, eqAD, _, _⟩ := Row.form ATA.out.dead
        replace eqAD : wAD = .slice BAD CA.dead.length dAD := eqAD
        subst eqAD
        obtain ⟨BARe, dARe, eqARe, _, _⟩ := Row.form ATA.out.ready
        replace eqARe : wARe = .slice BARe CA.R.ready.length dARe := eqARe
        subst eqARe
        obtain ⟨BAWa, dAWa, eqAWa, _, _⟩ := Row.form ATA.out.wait
        replace eqAWa : wAWa = .slice BAWa CA.R.wait.length dAWa := eqAWa
        subst eqAWa
        obtain ⟨BADu, dADu, eqADu, _, _⟩ := Row.form ATA.out.due
        replace eqADu : wADu = .slice BADu CA.R.due.length dADu := eqADu
        subst eqADu
        obtain ⟨BASn, dASn, eqASn, _, _⟩ := Row.form ATA.out.snaps
        replace eqASn : wASn = .slice BASn CA.R.snaps.length dASn := eqASn
        subst eqASn
        generalize canonW WB lb = CB at *
        obtain ⟨wBL, gsB, wBD, wBRe, wBWa, wBDu, wBSn⟩ := xb
        obtain ⟨BBL, dBL, eqBL, _, _⟩ := ATB.out.L.row.form
        replace eqBL : wBL = .slice BBL CB.L.length dBL := eqBL
        subst eqBL
        obtain ⟨BBD, dBD, eqBD, _, _⟩ := Row.form ATB.out.dead
        replace eqBD : wBD = .slice BBD CB.dead.length dBD := eqBD
        subst eqBD
        obtain ⟨BBRe, dBRe, eqBRe, _, _⟩ := Row.form ATB.out.ready
        replace eqBRe : wBRe = .slice BBRe CB.R.ready.length dBRe := eqBRe
        subst eqBRe
        obtain ⟨BBWa, dBWa, eqBWa, _, _⟩ := Row.form ATB.out.wait
        replace eqBWa : wBWa = .slice BBWa CB.R.wait.length dBWa := eqBWa
        subst eqBWa
        obtain ⟨BBDu, dBDu, eqBDu, _, _⟩ := Row.form ATB.out.due
        replace eqBDu : wBDu = .slice BBDu CB.R.due.length dBDu := eqBDu
        subst eqBDu
        obtain ⟨BBSn, dBSn, eqBSn, _, _⟩ := Row.form ATB.out.snaps
        replace eqBSn : wBSn = .slice BBSn CB.R.snaps.length dBSn := eqBSn
        subst eqBSn
        unfold cellsW at BGH BGH'
        obtain ⟨p1, p2, p3⟩ := BGH.out.rules
        obtain ⟨q1, q2, q3⟩ := BGH'.out.rules
        go_upto_region 4 with (fail)
        clear p1 p2 p3 q1 q2 q3
        refine wp_any_act (fun A0 hA => ?_)
        have eA : A0 = frS4 g g' (fun q => A0.tmps.getD q undef) (fun k => [A0.tmps.getD 21 undef, A0.tmps.getD 22 undef, A0.tmps.getD 23 undef, A0.tmps.getD 24 undef, A0.tmps.getD 7 undef, A0.tmps.getD 8 undef].getD k undef) := by rw [hA]; rfl
        clear hA
        generalize (fun k => [A0.tmps.getD 21 undef, A0.tmps.getD 22 undef, A0.tmps.getD 23 undef, A0.tmps.getD 24 undef, A0.tmps.getD 7 undef, A0.tmps.getD 8 undef].getD k undef) = s0 at eA
        generalize (fun q => A0.tmps.getD q undef) = u2 at eA
        subst eA
        have okC := isP_ok 29 #[.int .i64 CA.R.proc, .int .i64 CA.R.frame, .slice BARe CA.R.ready.length dARe, .slice BAWa CA.R.wait.length dAWa, .slice BADu CA.R.due.length dADu, .string CA.R.out, .string CA.R.inp, .int .i64 CA.R.how, .int .i64 CA.R.exit, .slice BASn CA.R.snaps.length dASn]
        have okD := isP_ok 29 #[.int .i64 CB.R.proc, .int .i64 CB.R.frame, .slice BBRe CB.R.ready.length dBRe, .slice BBWa CB.R.wait.length dBWa, .slice BBDu CB.R.due.length dBDu, .string CB.R.out, .string CB.R.inp, .int .i64 CB.R.how, .int .i64 CB.R.exit, .slice BBSn CB.R.snaps.length dBSn]
        refine wp_region_inv (Inv := fun listed a W3 => ∃ L : Nat → Bool, (∀ k, listed.getD k false = L k) ∧ ∃ s : Nat → Value, a = frS4 g g' u2 s ∧ listed.size = 8 ∧ TwoI W2 10 29 zeroRc (IsP #[.int .i64 CA.R.proc, .int .i64 CA.R.frame, .slice BARe CA.R.ready.length dARe, .slice BAWa CA.R.wait.length dAWa, .slice BADu CA.R.due.length dADu, .string CA.R.out, .string CA.R.inp, .int .i64 CA.R.how, .int .i64 CA.R.exit, .slice BASn CA.R.snaps.length dASn]) (IsP #[.int .i64 CB.R.proc, .int .i64 CB.R.frame, .slice BBRe CB.R.ready.length dBRe, .slice BBWa CB.R.wait.length dBWa, .slice BBDu CB.R.due.length dBDu, .string CB.R.out, .string CB.R.inp, .int .i64 CB.R.how, .int .i64 CB.R.exit, .slice BBSn CB.R.snaps.length dBSn]) (.pointer (some ⟨g, 3, none⟩)) (.pointer (some ⟨g', 3, none⟩)) L s W3) (by kernel_rfl) ?_ ?_ ?_
        · refine ⟨fun _ => false, fun k => ?_, s0, rfl, by simp, TwoI.start _ _ _ _ _ _ _ _ _ (Ext.refl _).drew⟩
          rw [Array.getD_eq_getD_getElem?, Array.getElem?_replicate]; split <;> rfl
        · rintro listed a W3 ii ⟨L, hL, s, rfl, hsz, I⟩ hi
          obtain ⟨hlt, hnot, hdep⟩ := (ready_iff _ _).1 hi
          have hiN : ii < 8 := hlt
          have casesN : ii = 0 ∨ ii = 1 ∨ ii = 2 ∨ ii = 3 ∨ ii = 4 ∨ ii = 5 ∨ ii = 6 ∨ ii = 7 := by omega
          have hn0 : L ii = false := by rw [← hL ii]; exact not_bit hnot
          clear hi hlt hiN hnot
          rcases casesN with rfl | rfl | rfl | rfl | rfl | rfl | rfl | rfl
          · -- operation 0
            simp only [Region.binds, listed_bit hL] at hdep
            have I1 := Lib.hid I
            clear I
            unfold frS4
            refine wpOp_step rfl (fun K' hK => ?_)
            go_simp
            exact hK _ _ ⟨_, bit_set hL hsz 0 (by omega), _, by first | rfl | (simp [frS4, put2]; done) | (simp [frS4, put2]; rfl), by simpa using hsz, I1.out.op0⟩
          · -- operation 1
            simp only [Region.binds, listed_bit hL] at hdep
            have d0 : L 0 = true := by first | simpa [hL] using hdep | (simp [hL, Region.binds] at hdep; simp [hdep])
            have e0 := I.v0 d0
            have R1 := (BGH.out.ext I.x).cell
            have I1 := Lib.hid I
            clear I
            unfold frS4
            refine wpOp_step rfl (fun K' hK => ?_)
            rw [e0]
            go_simp
            exact hK _ _ ⟨_, bit_set hL hsz 1 (by omega), _, by first | rfl | (simp [put2, e0]; done) | (simp [frS4, put2, e0]; rfl), by simpa using hsz, I1.out.op1 ⟨rfl, by simp [Value.oneCell'], rfl⟩⟩
          · -- operation 2
            simp only [Region.binds, listed_bit hL] at hdep
            have I1 := Lib.hid I
            clear I
            unfold frS4
            refine wpOp_step rfl (fun K' hK => ?_)
            go_simp
            exact hK _ _ ⟨_, bit_set hL hsz 2 (by omega), _, by first | rfl | (simp [frS4, put2]; done) | (simp [frS4, put2]; rfl), by simpa using hsz, I1.out.op2⟩
          · -- operation 3
            simp only [Region.binds, listed_bit hL] at hdep
            have d2 : L 2 = true := by first | simpa [hL] using hdep | (simp [hL, Region.binds] at hdep; simp [hdep])
            have e2 := I.v2 d2
            have R1 := (BGH'.out.ext I.x).cell
            have I1 := Lib.hid I
            clear I
            unfold frS4
            refine wpOp_step rfl (fun K' hK => ?_)
            rw [e2]
            go_simp
            exact hK _ _ ⟨_, bit_set hL hsz 3 (by omega), _, by first | rfl | (simp [put2, e2]; done) | (simp [frS4, put2, e2]; rfl), by simpa using hsz, I1.out.op3 ⟨rfl, by simp [Value.oneCell'], rfl⟩⟩
          · -- operation 4
            simp only [Region.binds, listed_bit hL] at hdep
            unfold frS4
            refine wpOp_step rfl (fun K' hK => ?_)
            go_simp
            exact hK _ _ ⟨_, bit_set hL hsz 4 (by omega), _, by first | rfl | (simp [frS4, put2, ptr2]; done) | (simp [frS4, put2, ptr2]; rfl), by simpa using hsz, I.op4 okC okD hn0⟩
          · -- operation 5
            simp only [Region.binds, listed_bit hL] at hdep
            unfold frS4
            refine wpOp_step rfl (fun K' hK => ?_)
            go_simp
            exact hK _ _ ⟨_, bit_set hL hsz 5 (by omega), _, by first | rfl | (simp [frS4, put2, ptr2]; done) | (simp [frS4, put2, ptr2]; rfl), by simpa using hsz, I.op5 okC okD hn0⟩
          · -- operation 6
            simp only [Region.binds, listed_bit hL] at hdep
            have d4 : L 4 = true := by first | simpa [hL] using hdep | (simp at hdep; simp [hdep])
            have d1 : L 1 = true := by first | simpa [hL] using hdep | (simp at hdep; simp [hdep])
            obtain ⟨g1, eg, hg1, bg⟩ := I.a4 d4 hn0
            obtain ⟨cs, ec, rc⟩ := I.v1 d1
            refine wpOp_step rfl (fun K' hK => ?_)
            rw [if_pos (by rfl)]
            refine wp_store_row _ _ _ rfl g1 cs (by show s 4 = _; exact eg) (by show s 1 = _; exact ec) _ _ bg (by rw [rc.size]; kernel_rfl) (by rw [rc.size]; rfl) rc.one (hK _ _ ?_)
            exact ⟨_, bit_set hL hsz 6 (by omega), s, rfl, by simpa using hsz, I.op6 okC okD hn0 d4 eg hg1 bg rc⟩
          · -- operation 7
            simp only [Region.binds, listed_bit hL] at hdep
            have d5 : L 5 = true := by first | simpa [hL] using hdep | (simp at hdep; simp [hdep])
            have d3 : L 3 = true := by first | simpa [hL] using hdep | (simp at hdep; simp [hdep])
            obtain ⟨g1, eg, hg1, bg⟩ := I.a5 d5 hn0
            obtain ⟨cs, ec, rc⟩ := I.v3 d3
            refine wpOp_step rfl (fun K' hK => ?_)
            rw [if_pos (by rfl)]
            refine wp_store_row _ _ _ rfl g1 cs (by show s 5 = _; exact eg) (by show s 3 = _; exact ec) _ _ bg (by rw [rc.size]; kernel_rfl) (by rw [rc.size]; rfl) rc.one (hK _ _ ?_)
            exact ⟨_, bit_set hL hsz 7 (by omega), s, rfl, by simpa using hsz, I.op7 okC okD hn0 d5 eg hg1 bg rc⟩
        · rintro listed a W3 ⟨L, hL, s, rfl, hsz, I⟩ hr
          have ALL : ∀ i, i < 8 → L i = true := fun i hi => by rw [← hL i]; exact all_listed_m (by kernel_rfl) hsz hr i hi
          obtain ⟨h, h', cs, cs', eg, eg', hg1, hg1', hgg1, bg, bg', rc, rc', xg⟩ := I.done ALL
          obtain rfl := rc.p
          obtain rfl := rc'.p
          clear I hL ALL hr hsz rc rc'
          have XG := Lib.hid xg
          replace BGH := Lib.hid (BGH.out.ext xg)
          replace BGH' := Lib.hid (BGH'.out.ext xg)
          have BH := Lib.hid bg
          have BH' := Lib.hid bg'
          have CT := Lib.hid (fun W4 (y : Ext W3 W4) => equalT (w := W4) ((ATA.out.ext xg).ext y).L ((ATB.out.ext xg).ext y).L)
          have CR := Lib.hid (fun W4 (y : Ext W3 W4) => equalNums (w := W4) ((ATA.out.ext xg).ext y).ready ((ATB.out.ext xg).ext y).ready)
          have CW := Lib.hid (fun W4 (y : Ext W3 W4) => equalWaits (w := W4) ((ATA.out.ext xg).ext y).wait ((ATB.out.ext xg).ext y).wait)
          have CD := Lib.hid (fun W4 (y : Ext W3 W4) => equalNums (w := W4) ((ATA.out.ext xg).ext y).due ((ATB.out.ext xg).ext y).due)
          have CS := Lib.hid (fun W4 (y : Ext W3 W4) => equalTexts (w := W4) ((ATA.out.ext xg).ext y).snaps ((ATB.out.ext xg).ext y).snaps)
          have E : Hid (eqW CA CB = (CA.last == CB.last && (CA.R.proc == CB.R.proc && (CA.R.frame == CB.R.frame && (CA.R.out == CB.R.out && (CA.R.inp == CB.R.inp && (CA.R.how == CB.R.how && (CA.R.exit == CB.R.exit && (eqL CA.L CB.L && (eqInts CA.R.ready CB.R.ready && (eqWaits CA.R.wait CB.R.wait && (eqInts CA.R.due CB.R.due && eqStrs CA.R.snaps CB.R.snaps)))))))))))) := rfl
          generalize eqL CA.L CB.L = r1 at *
          generalize eqInts CA.R.ready CB.R.ready = r2 at *
          generalize eqWaits CA.R.wait CB.R.wait = r3 at *
          generalize eqInts CA.R.due CB.R.due = r4 at *
          generalize eqStrs CA.R.snaps CB.R.snaps = r5 at *
          clear hg1 hg1' bg bg' xg ATA ATB okC okD hg hg'
          unfold frS4
          rw [eg, eg']
          unfold ptr2
          clear eg eg'
          obtain ⟨p1, p2, p3⟩ := BGH.out.rules
          obtain ⟨q1, q2, q3⟩ := BGH'.out.rules
          obtain ⟨s1, s2, s3⟩ := BH.out.rules
          obtain ⟨t1, t2, t3⟩ := BH'.out.rules
          generalize CA.last = a0 at *
          generalize CB.last = b0 at *
          generalize CA.R.proc = a1 at *
          generalize CB.R.proc = b1 at *
          generalize CA.R.frame = a2 at *
          generalize CB.R.frame = b2 at *
          generalize CA.R.out = a3 at *
          generalize CB.R.out = b3 at *
          generalize CA.R.inp = a4 at *
          generalize CB.R.inp = b4 at *
          generalize CA.R.how = a5 at *
          generalize CB.R.how = b5 at *
          generalize CA.R.exit = a6 at *
          generalize CB.R.exit = b6 at *
          rcases (show a0 ≠ b0 ∨ a0 = b0 from (Classical.em (a0 = b0)).symm) with c0 | c0
          · have e0 : (a0 == b0) = false := beq_eq_false_iff_ne.2 c0
            rw [e0, Bool.false_and] at E
            have m0 : (a0 != b0) = true := by unfold bne; rw [e0]; rfl
            go_wp2_with fail
            go_ret
            exact GOAL.out _ _ E.out.symm XG.out
          · have e0 : (a0 == b0) = true := beq_iff_eq.2 c0
            rw [e0, Bool.true_and] at E
            clear e0
            subst c0
            rcases (show a1 ≠ b1 ∨ a1 = b1 from (Classical.em (a1 = b1)).symm) with c1 | c1
            · have e1 : (a1 == b1) = false := beq_eq_false_iff_ne.2 c1
              rw [e1, Bool.false_and] at E
              have m1 : (a1 != b1) = true := by unfold bne; rw [e1]; rfl
              go_wp2_with fail
              go_ret
              exact GOAL.out _ _ E.out.symm XG.out
            · have e1 : (a1 == b1) = true := beq_iff_eq.2 c1
              rw [e1, Bool.true_and] at E
              clear e1
              subst c1
              rcases (show a2 ≠ b2 ∨ a2 = b2 from (Classical.em (a2 = b2)).symm) with c2 | c2
              · have e2 : (a2 == b2) = false := beq_eq_false_iff_ne.2 c2
                rw [e2, Bool.false_and] at E
                have m2 : (a2 != b2) = true := by unfold bne; rw [e2]; rfl
                go_wp2_with fail
                go_ret
                exact GOAL.out _ _ E.out.symm XG.out
              · have e2 : (a2 == b2) = true := beq_iff_eq.2 c2
                rw [e2, Bool.true_and] at E
                clear e2
                subst c2
                rcases (show a3 ≠ b3 ∨ a3 = b3 from (Classical.em (a3 = b3)).symm) with c3 | c3
                · have e3 : (a3 == b3) = false := bytes_ne c3
                  rw [e3, Bool.false_and] at E
                  have f3 : (a3.toList == b3.toList) = false := by rw [← beq_toListBytes]; exact e3
                  have g3 : ¬ (a3.toList = b3.toList) := beq_eq_false_iff_ne.1 f3
                  have m3 : (a3.toList != b3.toList) = true := by unfold bne; rw [f3]; rfl
                  clear c3 e3
                  go_wp2_with fail
                  go_ret
                  exact GOAL.out _ _ E.out.symm XG.out
                · have e3 : (a3 == b3) = true := by rw [c3]; exact bytes_refl _
                  rw [e3, Bool.true_and] at E
                  clear e3
                  subst c3
                  rcases (show a4 ≠ b4 ∨ a4 = b4 from (Classical.em (a4 = b4)).symm) with c4 | c4
                  · have e4 : (a4 == b4) = false := bytes_ne c4
                    rw [e4, Bool.false_and] at E
                    have f4 : (a4.toList == b4.toList) = false := by rw [← beq_toListBytes]; exact e4
                    have g4 : ¬ (a4.toList = b4.toList) := beq_eq_false_iff_ne.1 f4
                    have m4 : (a4.toList != b4.toList) = true := by unfold bne; rw [f4]; rfl
                    clear c4 e4
                    go_wp2_with fail
                    go_ret
                    exact GOAL.out _ _ E.out.symm XG.out
                  · have e4 : (a4 == b4) = true := by rw [c4]; exact bytes_refl _
                    rw [e4, Bool.true_and] at E
                    clear e4
                    subst c4
                    rcases (show a5 ≠ b5 ∨ a5 = b5 from (Classical.em (a5 = b5)).symm) with c5 | c5
                    · have e5 : (a5 == b5) = false := beq_eq_false_iff_ne.2 c5
                      rw [e5, Bool.false_and] at E
                      have m5 : (a5 != b5) = true := by unfold bne; rw [e5]; rfl
                      go_wp2_with fail
                      go_ret
                      exact GOAL.out _ _ E.out.symm XG.out
                    · have e5 : (a5 == b5) = true := beq_iff_eq.2 c5
                      rw [e5, Bool.true_and] at E
                      clear e5
                      subst c5
                      rcases (show a6 ≠ b6 ∨ a6 = b6 from (Classical.em (a6 = b6)).symm) with c6 | c6
                      · have e6 : (a6 == b6) = false := beq_eq_false_iff_ne.2 c6
                        rw [e6, Bool.false_and] at E
                        have m6 : (a6 != b6) = true := by unfold bne; rw [e6]; rfl
                        go_wp2_with fail
                        go_ret
                        exact GOAL.out _ _ E.out.symm XG.out
                      · have e6 : (a6 == b6) = true := beq_iff_eq.2 c6
                        rw [e6, Bool.true_and] at E
                        clear e6
                        subst c6
                        go_upto_region 7 with (fail)
                        cases r1 with
                        | false =>
                          rw [Bool.false_and] at E
                          go_wp2_with fail
                          refine (CT.out _ (Ext.refl _)).mono ?_
                          rintro e w4 ⟨rfl, x4⟩
                          have Y := Lib.hid x4
                          replace BGH := Lib.hid (BGH.out.ext x4)
                          replace BGH' := Lib.hid (BGH'.out.ext x4)
                          replace BH := Lib.hid (BH.out.ext x4)
                          replace BH' := Lib.hid (BH'.out.ext x4)
                          clear x4 p1 p2 p3 q1 q2 q3 s1 s2 s3 t1 t2 t3
                          obtain ⟨p1, p2, p3⟩ := BGH.out.rules
                          obtain ⟨q1, q2, q3⟩ := BGH'.out.rules
                          obtain ⟨s1, s2, s3⟩ := BH.out.rules
                          obtain ⟨t1, t2, t3⟩ := BH'.out.rules
                          go_wp2_with fail
                          go_ret
                          exact GOAL.out _ _ E.out.symm (XG.out.trans Y.out)
                        | true =>
                          rw [Bool.true_and] at E
                          go_wp2_with fail
                          refine (CT.out _ (Ext.refl _)).mono ?_
                          rintro e w4 ⟨rfl, x4⟩
                          have Y := Lib.hid x4
                          replace BGH := Lib.hid (BGH.out.ext x4)
                          replace BGH' := Lib.hid (BGH'.out.ext x4)
                          replace BH := Lib.hid (BH.out.ext x4)
                          replace BH' := Lib.hid (BH'.out.ext x4)
                          clear x4 p1 p2 p3 q1 q2 q3 s1 s2 s3 t1 t2 t3
                          obtain ⟨p1, p2, p3⟩ := BGH.out.rules
                          obtain ⟨q1, q2, q3⟩ := BGH'.out.rules
                          obtain ⟨s1, s2, s3⟩ := BH.out.rules
                          obtain ⟨t1, t2, t3⟩ := BH'.out.rules
                          cases r2 with
                          | false =>
                            rw [Bool.false_and] at E
                            go_wp2_with fail
                            refine (CR.out _ Y.out).mono ?_
                            rintro e w4 ⟨rfl, x4⟩
                            replace Y := Lib.hid (Y.out.trans x4)
                            replace BGH := Lib.hid (BGH.out.ext x4)
                            replace BGH' := Lib.hid (BGH'.out.ext x4)
                            replace BH := Lib.hid (BH.out.ext x4)
                            replace BH' := Lib.hid (BH'.out.ext x4)
                            clear x4 p1 p2 p3 q1 q2 q3 s1 s2 s3 t1 t2 t3
                            obtain ⟨p1, p2, p3⟩ := BGH.out.rules
                            obtain ⟨q1, q2, q3⟩ := BGH'.out.rules
                            obtain ⟨s1, s2, s3⟩ := BH.out.rules
                            obtain ⟨t1, t2, t3⟩ := BH'.out.rules
                            go_wp2_with fail
                            go_ret
                            exact GOAL.out _ _ E.out.symm (XG.out.trans Y.out)
                          | true =>
                            rw [Bool.true_and] at E
                            go_wp2_with fail
                            refine (CR.out _ Y.out).mono ?_
                            rintro e w4 ⟨rfl, x4⟩
                            replace Y := Lib.hid (Y.out.trans x4)
                            replace BGH := Lib.hid (BGH.out.ext x4)
                            replace BGH' := Lib.hid (BGH'.out.ext x4)
                            replace BH := Lib.hid (BH.out.ext x4)
                            replace BH' := Lib.hid (BH'.out.ext x4)
                            clear x4 p1 p2 p3 q1 q2 q3 s1 s2 s3 t1 t2 t3
                            obtain ⟨p1, p2, p3⟩ := BGH.out.rules
                            obtain ⟨q1, q2, q3⟩ := BGH'.out.rules
                            obtain ⟨s1, s2, s3⟩ := BH.out.rules
                            obtain ⟨t1, t2, t3⟩ := BH'.out.rules
                            cases r3 with
                            | false =>
                              rw [Bool.false_and] at E
                              go_wp2_with fail
                              refine (CW.out _ Y.out).mono ?_
                              rintro e w4 ⟨rfl, x4⟩
                              replace Y := Lib.hid (Y.out.trans x4)
                              replace BGH := Lib.hid (BGH.out.ext x4)
                              replace BGH' := Lib.hid (BGH'.out.ext x4)
                              replace BH := Lib.hid (BH.out.ext x4)
                              replace BH' := Lib.hid (BH'.out.ext x4)
                              clear x4 p1 p2 p3 q1 q2 q3 s1 s2 s3 t1 t2 t3
                              obtain ⟨p1, p2, p3⟩ := BGH.out.rules
                              obtain ⟨q1, q2, q3⟩ := BGH'.out.rules
                              obtain ⟨s1, s2, s3⟩ := BH.out.rules
                              obtain ⟨t1, t2, t3⟩ := BH'.out.rules
                              go_wp2_with fail
                              go_ret
                              exact GOAL.out _ _ E.out.symm (XG.out.trans Y.out)
                            | true =>
                              rw [Bool.true_and] at E
                              go_wp2_with fail
                              refine (CW.out _ Y.out).mono ?_
                              rintro e w4 ⟨rfl, x4⟩
                              replace Y := Lib.hid (Y.out.trans x4)
                              replace BGH := Lib.hid (BGH.out.ext x4)
                              replace BGH' := Lib.hid (BGH'.out.ext x4)
                              replace BH := Lib.hid (BH.out.ext x4)
                              replace BH' := Lib.hid (BH'.out.ext x4)
                              clear x4 p1 p2 p3 q1 q2 q3 s1 s2 s3 t1 t2 t3
                              obtain ⟨p1, p2, p3⟩ := BGH.out.rules
                              obtain ⟨q1, q2, q3⟩ := BGH'.out.rules
                              obtain ⟨s1, s2, s3⟩ := BH.out.rules
                              obtain ⟨t1, t2, t3⟩ := BH'.out.rules
                              cases r4 with
                              | false =>
                                rw [Bool.false_and] at E
                                go_wp2_with fail
                                refine (CD.out _ Y.out).mono ?_
                                rintro e w4 ⟨rfl, x4⟩
                                replace Y := Lib.hid (Y.out.trans x4)
                                replace BGH := Lib.hid (BGH.out.ext x4)
                                replace BGH' := Lib.hid (BGH'.out.ext x4)
                                replace BH := Lib.hid (BH.out.ext x4)
                                replace BH' := Lib.hid (BH'.out.ext x4)
                                clear x4 p1 p2 p3 q1 q2 q3 s1 s2 s3 t1 t2 t3
                                obtain ⟨p1, p2, p3⟩ := BGH.out.rules
                                obtain ⟨q1, q2, q3⟩ := BGH'.out.rules
                                obtain ⟨s1, s2, s3⟩ := BH.out.rules
                                obtain ⟨t1, t2, t3⟩ := BH'.out.rules
                                go_wp2_with fail
                                go_ret
                                exact GOAL.out _ _ E.out.symm (XG.out.trans Y.out)
                              | true =>
                                rw [Bool.true_and] at E
                                go_wp2_with fail
                                refine (CD.out _ Y.out).mono ?_
                                rintro e w4 ⟨rfl, x4⟩
                                replace Y := Lib.hid (Y.out.trans x4)
                                replace BGH := Lib.hid (BGH.out.ext x4)
                                replace BGH' := Lib.hid (BGH'.out.ext x4)
                                replace BH := Lib.hid (BH.out.ext x4)
                                replace BH' := Lib.hid (BH'.out.ext x4)
                                clear x4 p1 p2 p3 q1 q2 q3 s1 s2 s3 t1 t2 t3
                                obtain ⟨p1, p2, p3⟩ := BGH.out.rules
                                obtain ⟨q1, q2, q3⟩ := BGH'.out.rules
                                obtain ⟨s1, s2, s3⟩ := BH.out.rules
                                obtain ⟨t1, t2, t3⟩ := BH'.out.rules
                                go_wp2_with fail
                                refine (CS.out _ Y.out).mono ?_
                                rintro e w4 ⟨rfl, x4⟩
                                replace Y := Lib.hid (Y.out.trans x4)
                                replace BGH := Lib.hid (BGH.out.ext x4)
                                replace BGH' := Lib.hid (BGH'.out.ext x4)
                                replace BH := Lib.hid (BH.out.ext x4)
                                replace BH' := Lib.hid (BH'.out.ext x4)
                                clear x4 p1 p2 p3 q1 q2 q3 s1 s2 s3 t1 t2 t3
                                obtain ⟨p1, p2, p3⟩ := BGH.out.rules
                                obtain ⟨q1, q2, q3⟩ := BGH'.out.rules
                                obtain ⟨s1, s2, s3⟩ := BH.out.rules
                                obtain ⟨t1, t2, t3⟩ := BH'.out.rules
                                go_wp2_with fail
                                go_ret
                                exact GOAL.out _ _ E.out.symm (XG.out.trans Y.out)
end
end Go.Proofs.Ytadhkmplhgcgkaa.World
