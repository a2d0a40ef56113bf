/-
  Chapter 5's reference (colloquyref05): find, Get, Size, Field, Byte, Next.
-/
import Derived.Test.YtjpalcejmloocaaRefHeap0
import Derived.Deep.DeepCutAuto
namespace Go.Proofs.Ytjpalcejmloocaa.RefHeap
open Go.RowKit Go.Proofs.Ytjpalcejmloocaa.Plain Go.Proofs.Ytjpalcejmloocaa.Free Go.Proofs.Ytjpalcejmloocaa.Heap Go.Proofs.Ytjpalcejmloocaa.RefFree
set_option linter.unusedVariables false
theorem rowO_at (Q : List QO) (i : Nat) (hi : i < Q.length) (j : Nat) (hj : j < 9) : (rowO Q)[i * 9 + j]? = (cellsO Q[i])[j]? := by
  have h := rowO_mid (Q.take i) (Q.drop (i + 1)) Q[i] j hj
  rw [← er_split Q i hi, List.length_take, Nat.min_eq_left (by omega)] at h
  exact h
section
variable {w w' : World} {h f ib base n : Nat} {vL : Value} {Q A B : List QO} {q : QO} {is : List Bool}
/-- where the i-th object is -/
def kAt (Q : List QO) (i : Nat) : Int := (Q.map fun q => (q.o.k : Int) + 1).getD i 0
theorem kAt_get (Q : List QO) (i : Nat) (hi : i < Q.length) : kAt Q i = ((Q[i].o.k : Int) + 1) := by
  unfold kAt
  rw [List.getD_eq_getElem?_getD, List.getElem?_map, List.getElem?_eq_getElem hi]; rfl
theorem kAt_left (A B : List QO) (q : QO) (i : Nat) (hi : i < A.length) : ∃ a ∈ A, kAt (A ++ q :: B) i = (a.o.k : Int) + 1 :=
  ⟨A[i], List.getElem_mem _, by rw [kAt_get _ _ (by simp; omega), List.getElem_append_left hi]⟩
theorem kAt_mid (A B : List QO) (q : QO) : kAt (A ++ q :: B) A.length = (q.o.k : Int) + 1 := by rw [kAt_get _ _ (by simp)]; simp
theorem HAt.at_ (H : HAt w h f ib base n vL Q is) (i : Nat) (hi : i < Q.length) : ∃ g cap, vL = .slice (some ⟨g, 0, none⟩) Q.length cap ∧ g < w.heap.size ∧ w.cell? ⟨g, i * 9, none⟩ = some (.int .i64 (kAt Q i)) := by
  obtain ⟨g, cap, h1, h2, h3, h4, h5, h6, h7⟩ := own_cell H.row (by omega)
  exact ⟨g, cap, h1, h3, by rw [kAt_get Q i hi]; exact h7 (i * 9) _ ((rowO_at Q i hi 0 (by omega)).trans rfl)⟩
set_option maxRecDepth 100000 in
set_option maxHeartbeats 2000000 in
theorem find_yes (H : HAt w h f ib base n vL (A ++ q :: B) is) (at_ : Int) (hq : (q.o.k : Int) + 1 = at_) (ha : ∀ a ∈ A, (a.o.k : Int) + 1 ≠ at_) :
    Calls Try.prog 50 #[.pointer (some ⟨h, 0, none⟩), .int .i64 at_] w fun e w' => e = .returned (.int .i64 (A.length : Nat)) ∧ Ext w w' := by
  have HB := Lib.hid H.blk
  have hfew := H.few
  obtain ⟨A0, c0, e0, _, _⟩ := own_form H.row
  have AL := Lib.hid H.at_
  have ne := Lib.hid (fun i hi => show kAt (A ++ q :: B) i ≠ at_ by
    obtain ⟨a, h1, h2⟩ := kAt_left A B q i hi
    rw [h2]; exact ha a h1)
  have EQ := Lib.hid ((kAt_mid A B q).trans hq)
  have hlt : A.length < (A ++ q :: B).length := by simp
  subst e0
  generalize kAt (A ++ q :: B) = K at *
  generalize hlq : (A ++ q :: B).length = lq at *
  generalize A.length = la at *
  clear H ha hq hlq
  go_enter Try.func50, Try.ntmps50
  go_wp2_with fail
  go_loopw [5] (fun iv wr => ∃ i : Nat, i ≤ la ∧ iv = .int .i64 i ∧ Ext w wr) (fun iv _ => lq - (intOf iv).toNat)
  case atStart => exact ⟨0, Nat.zero_le _, rfl, Ext.refl _⟩
  case round =>
    obtain ⟨i, hi, rfl, x⟩ := hrel
    obtain ⟨r1, r2, r3⟩ := (HB.out.ext x).rules
    obtain ⟨g, cap, hv, hg, hc⟩ := AL.out i (by omega)
    injection hv with hv _ _
    subst hv
    have c2 := (x.below.cell (p := ⟨g, i * 9, none⟩) hg).trans hc
    have i1 : (i : Int) < (lq : Int) := by omega
    have XH := Lib.hid x
    clear hc x
    by_cases hlt2 : i < la
    · have e1 : (K i == at_) = false := beq_eq_false_iff_ne.2 (ne.out i hlt2)
      generalize K i = kk at *
      go_wp2_with fail
      exact ⟨⟨i + 1, by omega, by go_num, XH.out⟩, by simp [intOf]; omega⟩
    · obtain rfl : i = la := by omega
      have e1 : (K i == at_) = true := beq_iff_eq.2 EQ.out
      generalize K i = kk at *
      go_wp2_with fail
      go_ret
      exact ⟨rfl, XH.out⟩
set_option maxRecDepth 100000 in
set_option maxHeartbeats 2000000 in
theorem find_no (H : HAt w h f ib base n vL Q is) (at_ : Int) (ha : ∀ a ∈ Q, (a.o.k : Int) + 1 ≠ at_) :
    Calls Try.prog 50 #[.pointer (some ⟨h, 0, none⟩), .int .i64 at_] w fun e w' => e = .returned (.int .i64 (-1)) ∧ Ext w w' := by
  have HB := Lib.hid H.blk
  have hfew := H.few
  obtain ⟨A0, c0, e0, _, _⟩ := own_form H.row
  have AL := Lib.hid H.at_
  have ne := Lib.hid (fun i (hi : i < Q.length) => show kAt Q i ≠ at_ by rw [kAt_get Q i hi]; exact ha _ (List.getElem_mem _))
  subst e0
  generalize kAt Q = K at *
  generalize hlq : Q.length = lq at *
  clear H ha hlq
  go_enter Try.func50, Try.ntmps50
  go_wp2_with fail
  go_loopw [5] (fun iv wr => ∃ i : Nat, i ≤ lq ∧ iv = .int .i64 i ∧ Ext w wr) (fun iv _ => lq - (intOf iv).toNat)
  case atStart => exact ⟨0, Nat.zero_le _, rfl, Ext.refl _⟩
  case round =>
    obtain ⟨i, hi, rfl, x⟩ := hrel
    obtain ⟨r1, r2, r3⟩ := (HB.out.ext x).rules
    have XH := Lib.hid x
    by_cases hlt2 : i < lq
    · obtain ⟨g, cap, hv, hg, hc⟩ := AL.out i hlt2
      injection hv with hv _ _
      subst hv
      have c2 := (x.below.cell (p := ⟨g, i * 9, none⟩) hg).trans hc
      have i1 : (i : Int) < (lq : Int) := by omega
      have e1 : (K i == at_) = false := beq_eq_false_iff_ne.2 (ne.out i hlt2)
      generalize K i = kk at *
      clear hc x
      go_wp2_with fail
      exact ⟨⟨i + 1, by omega, by go_num, XH.out⟩, by simp [intOf]; omega⟩
    · obtain rfl : i = lq := by omega
      have i1 : (i : Int) ≤ (i : Int) := Int.le_refl _
      clear x
      go_wp2_with fail
      go_ret
      exact ⟨rfl, XH.out⟩
end
end Go.Proofs.Ytjpalcejmloocaa.RefHeap
