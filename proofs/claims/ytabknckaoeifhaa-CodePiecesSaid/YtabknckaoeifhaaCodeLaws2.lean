/-
  The walk of CodePieces (chapter 13).
-/
import Derived.Test.YtabknckaoeifhaaCodeLaws
import Derived.Test.YtabknckaoeifhaaWord
import Derived.Test.YtabknckaoeifhaaShell
import Derived.Laws.Concat
namespace Go.Proofs.Ytabknckaoeifhaa.Code
open Go.RowKit Go.Proofs.Ytabknckaoeifhaa.Plain
set_option linter.unusedVariables false

def getO (s : ByteArray) (pc : Int) : Bool := decide (0 ≤ pc ∧ pc < ((s.size / 3 : Nat) : Int))
def getB (s : ByteArray) (pc : Int) (j : Nat) : Int := if 0 ≤ pc ∧ pc < ((s.size / 3 : Nat) : Int) then byteI s (3 * pc.toNat + j) else 0
structure Got (s : ByteArray) (pc x0 x1 x2 : Int) (ok : Bool) : Prop where
  b0 : getB s pc 0 = x0
  b1 : getB s pc 1 = x1
  b2 : getB s pc 2 = x2
  o : getO s pc = ok
theorem got (s : ByteArray) (pc : Int) : ∃ x0 x1 x2 ok, Got s pc x0 x1 x2 ok := ⟨_, _, _, _, rfl, rfl, rfl, rfl⟩
theorem got_no {s : ByteArray} {pc : Int} (h : pc < 0 ∨ ((s.size / 3 : Nat) : Int) ≤ pc) : Got s pc 0 0 0 false := by
  have : ¬ (0 ≤ pc ∧ pc < ((s.size / 3 : Nat) : Int)) := by omega
  exact ⟨if_neg this, if_neg this, if_neg this, by simp only [getO, this, decide_false]⟩
theorem cget_as (w : World) {s : ByteArray} {pc x0 x1 x2 : Int} {ok : Bool} (h : s.size ≤ maxLen) (g : Got s pc x0 x1 x2 ok) :
    Calls Try.prog 21 #[.string s, .int .i64 pc] w fun e w' => e = .returned (.tuple #[.agg #[.int .i64 x0, .int .i64 x1, .int .i64 x2], .bool ok]) ∧ Ext w w' := by
  obtain ⟨rfl, rfl, rfl, rfl⟩ := g
  by_cases hlo : pc < 0
  · obtain ⟨a, b, c, d⟩ := got_no (s := s) (.inl hlo)
    rw [a, b, c, d]; exact cget_lo w s h pc hlo
  by_cases hhi : ((s.size / 3 : Nat) : Int) ≤ pc
  · obtain ⟨a, b, c, d⟩ := got_no (s := s) (.inr hhi)
    rw [a, b, c, d]; exact cget_hi w s h pc hhi
  obtain ⟨k, rfl⟩ := Int.eq_ofNat_of_zero_le (Int.not_lt.1 hlo)
  have hin : 0 ≤ (k : Int) ∧ (k : Int) < ((s.size / 3 : Nat) : Int) := by omega
  unfold getB getO
  simp only [hin, and_self, if_true, Int.toNat_natCast, decide_true]
  exact cget_in w s h k (by omega)
theorem rget_as (w : World) {s : ByteArray} {pc x0 x1 x2 : Int} {ok : Bool} (h : s.size ≤ maxLen) (g : Got s pc x0 x1 x2 ok) :
    Calls Try.prog 24 #[.string s, .int .i64 pc] w fun e w' => e = .returned (.tuple #[.agg #[.int .i64 x0, .int .i64 x1, .int .i64 x2], .bool ok]) ∧ Ext w w' := by
  obtain ⟨rfl, rfl, rfl, rfl⟩ := g
  by_cases hlo : pc < 0
  · obtain ⟨a, b, c, d⟩ := got_no (s := s) (.inl hlo)
    rw [a, b, c, d]; exact rget_lo w s h pc hlo
  by_cases hhi : ((s.size / 3 : Nat) : Int) ≤ pc
  · obtain ⟨a, b, c, d⟩ := got_no (s := s) (.inr hhi)
    rw [a, b, c, d]; exact rget_hi w s h pc hhi
  obtain ⟨k, rfl⟩ := Int.eq_ofNat_of_zero_le (Int.not_lt.1 hlo)
  have hin : 0 ≤ (k : Int) ∧ (k : Int) < ((s.size / 3 : Nat) : Int) := by omega
  unfold getB getO
  simp only [hin, and_self, if_true, Int.toNat_natCast, decide_true]
  exact rget_in w s h k (by omega)
theorem clen_as (w : World) {s : ByteArray} {z : Int} (h : s.size ≤ maxLen) (hz : ((s.size / 3 : Nat) : Int) = z) : Calls Try.prog 20 #[.string s] w fun e w' => e = .returned (.int .i64 z) ∧ w = w' := by
  subst hz; exact clen w s h
theorem bcell {W w1 : World} (hb : Below W.heap.size W w1) : (∀ b o, b < W.heap.size → w1.cell? ⟨b, o, none⟩ = W.cell? ⟨b, o, none⟩) ∧ (∀ b o, b < W.heap.size → w1.frozen? ⟨b, o, none⟩ = W.frozen? ⟨b, o, none⟩) :=
  ⟨fun b o h => hb.cell (p := ⟨b, o, none⟩) h, fun b o h => hb.frozen (p := ⟨b, o, none⟩) h⟩
theorem app_lo (a b : ByteArray) (i : Nat) (h : i < a.size) : byteI (a ++ b) i = byteI a i := by
  unfold byteI
  rw [ByteArray.data_append, Array.toList_append, List.getD_eq_getElem?_getD, List.getD_eq_getElem?_getD, List.getElem?_append_left (by simpa using h)]
theorem app_hi (a b : ByteArray) (i : Nat) : byteI (a ++ b) (a.size + i) = byteI b i := by
  unfold byteI
  rw [ByteArray.data_append, Array.toList_append, List.getD_eq_getElem?_getD, List.getD_eq_getElem?_getD, List.getElem?_append_right (by simp)]
  congr 2
  simp
theorem got_app_lo {a b : ByteArray} {k : Nat} {n x0 x1 x2 : Int} {ok : Bool} (hk : a.size = 3 * k) (hn : n < k) (g : Got a n x0 x1 x2 ok) : Got (a ++ b) n x0 x1 x2 ok := by
  obtain ⟨rfl, rfl, rfl, rfl⟩ := g
  have hs : (a ++ b).size = a.size + b.size := ByteArray.size_append
  by_cases h0 : 0 ≤ n
  · have h1 : 0 ≤ n ∧ n < ((a.size / 3 : Nat) : Int) := by omega
    have h2 : 0 ≤ n ∧ n < (((a ++ b).size / 3 : Nat) : Int) := by omega
    refine ⟨?_, ?_, ?_, ?_⟩
    · unfold getB; rw [if_pos h1, if_pos h2, app_lo _ _ _ (by omega)]
    · unfold getB; rw [if_pos h1, if_pos h2, app_lo _ _ _ (by omega)]
    · unfold getB; rw [if_pos h1, if_pos h2, app_lo _ _ _ (by omega)]
    · unfold getO; rw [decide_eq_true h1, decide_eq_true h2]
  · have g1 := got_no (s := a) (pc := n) (.inl (by omega))
    have g2 := got_no (s := a ++ b) (pc := n) (.inl (by omega))
    obtain ⟨e0, e1, e2, e3⟩ := g1
    rw [e0, e1, e2, e3]; exact g2
theorem got_app_hi {a b : ByteArray} {k : Nat} {n x0 x1 x2 : Int} {ok : Bool} (hk : a.size = 3 * k) (hn : (k : Int) ≤ n) (g : Got b (n - k) x0 x1 x2 ok) : Got (a ++ b) n x0 x1 x2 ok := by
  obtain ⟨rfl, rfl, rfl, rfl⟩ := g
  have hs : (a ++ b).size = a.size + b.size := ByteArray.size_append
  by_cases h1 : n - k < ((b.size / 3 : Nat) : Int)
  · have h1 : 0 ≤ n - k ∧ n - k < ((b.size / 3 : Nat) : Int) := by omega
    have h2 : 0 ≤ n ∧ n < (((a ++ b).size / 3 : Nat) : Int) := by omega
    have e : ∀ j, 3 * n.toNat + j = a.size + (3 * (n - k).toNat + j) := fun j => by omega
    refine ⟨?_, ?_, ?_, ?_⟩
    · unfold getB; rw [if_pos h1, if_pos h2, e, app_hi]
    · unfold getB; rw [if_pos h1, if_pos h2, e, app_hi]
    · unfold getB; rw [if_pos h1, if_pos h2, e, app_hi]
    · unfold getO; rw [decide_eq_true h1, decide_eq_true h2]
  · have g1 := got_no (s := b) (pc := n - k) (.inr (by omega))
    have g2 := got_no (s := a ++ b) (pc := n) (.inr (by omega))
    obtain ⟨e0, e1, e2, e3⟩ := g1
    rw [e0, e1, e2, e3]; exact g2

set_option maxRecDepth 100000 in
set_option maxHeartbeats 2000000 in
theorem pieces_core (a b : ByteArray) (pc : Int) (w : World) (ha : a.size ≤ 300) (hb : b.size ≤ 300) (h1 : -9223372036854775808 ≤ pc) (h2 : pc ≤ 9223372036854775807) :
    Calls Try.prog 4 #[.string a, .string b, .int .i64 pc] w fun e w' => e = .returned (.bool true) ∧ Below w.heap.size w w' := by
  have d1 : decide (300 < (a.size : Int)) = false := by simp; omega
  have d2 : decide (300 < (b.size : Int)) = false := by simp; omega
  go_enter Try.func4, Try.ntmps4
  go_wp2_with fail
  refine (Word.place _ _ _ (by omega) (by omega) (by omega) (by omega)).mono ?_
  rintro e w' ⟨rfl, rfl⟩
  go_wp2_with fail
  obtain ⟨A, hA⟩ : ∃ A, A = a.extract 0 (a.size / 3 * 3) := ⟨_, rfl⟩
  have hsA : A.size = 3 * (a.size / 3) := by rw [hA]; simp; omega
  rw [← hA]
  clear hA
  obtain ⟨k, hk⟩ : ∃ k, k = a.size / 3 := ⟨_, rfl⟩
  rw [← hk] at hsA
  have n0 : 0 ≤ pc % 250 := by omega
  have n1 : pc % 250 < 250 := by omega
  have HA := Lib.hid hsA
  have kle : k ≤ 100 := by omega
  clear hk hsA
  generalize pc % 250 = n at n0 n1
  refine (clen_as _ (z := k) (by rw [HA.out]; unfold maxLen; omega) (by rw [HA.out]; omega)).mono ?_
  rintro e w' ⟨rfl, rfl⟩
  have hAB : (A ++ b).size ≤ maxLen := by rw [ByteArray.size_append, HA.out]; unfold maxLen; omega
  have HL := Lib.hid hAB
  clear hAB
  have LA : Hid (A.size ≤ maxLen) := by rw [HA.out]; exact Lib.hid (by unfold maxLen; omega)
  have LB : Hid (b.size ≤ maxLen) := Lib.hid (by unfold maxLen; omega)
  have ZB : Hid ((((A ++ b).size / 3 : Nat) : Int) = (k : Int) + ((b.size / 3 : Nat) : Int)) := Lib.hid (by rw [ByteArray.size_append, HA.out]; omega)
  have hAs : A.size ≤ 300 := by rw [HA.out]; omega
  have bA : ((k : Int) == (A.size : Int) / 3) = true := by rw [HA.out]; simp
  have hadd : ∀ W : World, Sem.run Try.prog (Op.stringOp .add A b) W = .ok (.string (A ++ b)) W := fun W => run_string_add_sum W A b (by rw [HA.out]; omega)
  have gLO := Lib.hid (fun (n x0 x1 x2 : Int) (ok : Bool) hn => got_app_lo (a := A) (b := b) (k := k) (n := n) (x0 := x0) (x1 := x1) (x2 := x2) (ok := ok) HA.out hn)
  have gHI := Lib.hid (fun (n x0 x1 x2 : Int) (ok : Bool) hn => got_app_hi (a := A) (b := b) (k := k) (n := n) (x0 := x0) (x1 := x1) (x2 := x2) (ok := ok) HA.out hn)
  generalize A ++ b = S at hadd gLO gHI HL ZB
  by_cases hn : n < k
  · obtain ⟨x0, x1, x2, ok, gA⟩ := got A n
    have gAB := gLO.out _ _ _ _ _ hn gA
    have bo : (ok == ok) = true := by simp
    have dn : decide ((k : Int) ≤ n) = false := by simp; omega
    go_wp2_with fail
    refine (cget_as _ HL.out gAB).mono ?_
    rintro e w1 ⟨rfl, y1⟩
    go_wp2_with fail
    refine (cget_as _ LA.out gA).mono ?_
    rintro e w2 ⟨rfl, y2⟩
    obtain ⟨q1, q2, q3⟩ := ((Blk.new w1 27 #[.int .i64 x0, .int .i64 x1, .int .i64 x2]).ext y2).rules
    go_wp2_with fail
    refine (clen_as _ HL.out ZB.out).mono ?_
    rintro e w' ⟨rfl, rfl⟩
    go_wp2_with fail
    refine (clen_as _ LB.out rfl).mono ?_
    rintro e w' ⟨rfl, rfl⟩
    go_wp2_with fail
    refine (awake _).mono ?_
    rintro e w3 ⟨rfl, y3⟩
    go_wp2_with fail
    go_ret
    exact ⟨rfl, ((((y1.alloc _).trans y2).alloc _).trans y3).below⟩
  · obtain ⟨x0, x1, x2, ok, gB⟩ := got b (n - k)
    have gAB := gHI.out _ _ _ _ _ (by omega) gB
    have gA : Got A n 0 0 0 false := got_no (.inr (by rw [HA.out]; omega))
    have bo : (ok == ok) = true := by simp
    have dn : decide ((k : Int) ≤ n) = true := by simp; omega
    go_wp2_with fail
    refine (cget_as _ HL.out gAB).mono ?_
    rintro e w1 ⟨rfl, y1⟩
    go_wp2_with fail
    refine (cget_as _ LA.out gA).mono ?_
    rintro e w2 ⟨rfl, y2⟩
    have B1 := (Blk.new w1 27 #[.int .i64 x0, .int .i64 x1, .int .i64 x2]).ext y2
    go_wp2_with fail
    refine (cget_as _ LB.out gB).mono ?_
    rintro e w3 ⟨rfl, y3⟩
    have B2 := (Blk.new w2 27 #[.int .i64 0, .int .i64 0, .int .i64 0]).ext y3
    have B3 := (B1.alloc (.cells #[.int .i64 0, .int .i64 0, .int .i64 0] 27)).ext y3
    have hge : w.heap.size ≤ w2.heap.size := by have := ((y1.alloc (.cells #[.int .i64 x0, .int .i64 x1, .int .i64 x2] 27)).trans y2).below.size; omega
    have hne : w1.heap.size ≠ w2.heap.size := by have := B1.lt; omega
    obtain ⟨q1, q2, q3⟩ := B2.rules
    obtain ⟨r1, r2, r3⟩ := B3.rules
    go_wp2_with fail
    refine (clen_as _ HL.out ZB.out).mono ?_
    rintro e w' ⟨rfl, rfl⟩
    go_wp2_with fail
    refine (clen_as _ LB.out rfl).mono ?_
    rintro e w' ⟨rfl, rfl⟩
    go_wp2_with fail
    refine (awake _).mono ?_
    rintro e w4 ⟨rfl, y4⟩
    go_wp2_with fail
    go_ret
    exact ⟨rfl, ((((((((y1.alloc _).trans y2).alloc _).trans y3).setNew (p := ⟨w2.heap.size, 0, none⟩) hge _).setNew (p := ⟨w2.heap.size, 1, none⟩) hge _).setNew (p := ⟨w2.heap.size, 2, none⟩) hge _).trans y4).below⟩
set_option maxHeartbeats 1000000 in
theorem codePieces {H : Type} {enc : TypeId × Value → H} {r : Reach} {u0 u1 : Nat} {d0 d1 : DataW H} {p0 p1 : List MemPlace} (v0 v1 : Value) (a2 : Int) (w : World)
    (hv0 : Value.okWide Try.prog w r u0 9 v0) (h0 : DataW.Trod enc Try.prog w 0 (fun _ => true) true 9 v0 d0 p0)
    (hv1 : Value.okWide Try.prog w r u1 9 v1) (h1 : DataW.Trod enc Try.prog w 0 (fun _ => true) true 9 v1 d1 p1) (w2 : (Lit.int .i64 a2).wf = true) :
    Calls Try.prog 4 #[v0, v1, .int .i64 a2] w fun e w' => e = .returned (.bool true) ∧ Below w.heap.size w w' := by
  obtain ⟨a, rfl, ha⟩ := Shell.open_str Try.underlying9 hv0 h0
  obtain ⟨b, rfl, hb⟩ := Shell.open_str Try.underlying9 hv1 h1
  obtain ⟨x1, x2⟩ := bounds_i64 w2
  unfold maxLen at ha hb
  by_cases h : a.size ≤ 300
  · by_cases h' : b.size ≤ 300
    · exact pieces_core a b a2 w h h' x1 x2
    · have d1 : decide (300 < (a.size : Int)) = false := by simp; omega
      have d2 : decide (300 < (b.size : Int)) = true := by simp; omega
      go_enter Try.func4, Try.ntmps4
      go_wp2_with fail
      refine (awake _).mono ?_
      rintro e w3 ⟨rfl, y3⟩
      go_wp2_with fail
      go_ret
      exact ⟨rfl, y3.below⟩
  · have d1 : decide (300 < (a.size : Int)) = true := by simp; omega
    go_enter Try.func4, Try.ntmps4
    go_wp2_with fail
    refine (awake _).mono ?_
    rintro e w3 ⟨rfl, y3⟩
    go_wp2_with fail
    go_ret
    exact ⟨rfl, y3.below⟩
end Go.Proofs.Ytabknckaoeifhaa.Code
