/-
  Contracts of package reach (chapter 8): what registers lead to.
-/
import Derived.Test.YtadhkmplhgcgkaaImage9
namespace Go.Proofs.Ytadhkmplhgcgkaa.World
open Go.RowKit Go.Proofs.Ytadhkmplhgcgkaa.Plain
set_option linter.unusedVariables false
attribute [local go_sem ↓] Go.wp_at_zero Go.wp_at_succ

def has1 (l : List Int) (x : Int) (j : Nat) : Bool := l.getD j 0 == x
theorem has1_all (l : List Int) (x : Int) : (!allTo (fun j => !has1 l x j) l.length) = l.contains x := by
  rw [Bool.eq_iff_iff, Bool.not_eq_true', ← Bool.not_eq_true, allTo_iff, List.contains_iff_mem]
  constructor
  · intro h
    refine Classical.byContradiction fun hn => h fun i hi => ?_
    unfold has1
    rw [Bool.not_eq_true', beq_eq_false_iff_ne]
    rintro rfl
    apply hn
    rw [List.getD_eq_getElem?_getD, List.getElem?_eq_getElem hi]; exact List.getElem_mem hi
  · intro hm h
    obtain ⟨i, hi, e⟩ := List.getElem_of_mem hm
    have := h i hi
    unfold has1 at this
    rw [List.getD_eq_getElem?_getD, List.getElem?_eq_getElem hi, Bool.not_eq_true', beq_eq_false_iff_ne] at this
    exact this e
section
variable {w : World}
set_option maxRecDepth 100000 in
set_option maxHeartbeats 1000000 in
theorem indexInt {l : List Int} {v : Value} (hv : IntsAt w v l) (x : Int) : Calls Try.prog 125 #[v, .int .i64 x] w (IdxPost w l.length (has1 l x)) := by
  obtain ⟨A, c, rfl, h1, h2⟩ := Row.form hv
  have hv : Row w (.slice A l.length c) l.length 1 (fun i _ => .int .i64 (l.getD i 0)) := hv
  have HR := Lib.hid hv
  have AF := Lib.hid (allTo_false (fun j => !has1 l x j) l.length)
  have AS := Lib.hid (allTo_succ (fun j => !has1 l x j))
  have HE : Hid (∀ j, has1 l x j = (l.getD j 0 == x)) := Lib.hid (fun _ => rfl)
  clear hv
  generalize hn : l.length = n at *
  clear hn
  go_enter Try.func125, Try.ntmps125
  go_wp2
  go_loopw [8] (fun iv wr => ∃ i : Nat, i ≤ n ∧ iv = .int .i64 i ∧ allTo (fun j => !has1 l x j) i = true ∧ w = wr) (fun iv _ => n - (intOf iv).toNat)
  case atStart => exact ⟨0, Nat.zero_le _, rfl, rfl, rfl⟩
  case round =>
    obtain ⟨i, hi, rfl, ha, rfl⟩ := hrel
    have HA := Lib.hid ha
    clear ha
    by_cases hlt : i < n
    · obtain ⟨b, off, rfl, hb, hc⟩ := Row.at_ HR.out i hlt
      have c0 : w.cell? ⟨b, off + i * 1, none⟩ = some (.int .i64 (l.getD i 0)) := hc 0 (by omega)
      rw [Nat.mul_one] at c0
      have iI : (i : Int) < (n : Int) := by omega
      have HEi := HE.out i
      clear hc
      generalize l.getD i 0 = y at *
      cases hp : (y == x) with
      | true =>
        have AN := Lib.hid (AF.out i hlt (by rw [HEi, hp]; rfl))
        have hp' : (x == y) = true := by rw [beq_iff_eq] at hp ⊢; exact hp.symm
        clear hp HEi
        go_wp2
        go_ret
        exact ⟨_, rfl, .inr ⟨AN.out, by omega, by omega⟩, Ext.refl _⟩
      | false =>
        have AN := Lib.hid (AS.out i HA.out (by rw [HEi, hp]; rfl))
        have hp' : (x == y) = false := by rw [beq_eq_false_iff_ne] at hp ⊢; exact fun e => hp e.symm
        clear hp HEi
        go_wp2
        go_roundw
        case rel => exact ⟨i + 1, by omega, by go_num, AN.out, trivial⟩
        case measure => simp [intOf]; omega
    · obtain rfl : i = n := by omega
      go_wp2
      go_ret
      exact ⟨_, rfl, .inl ⟨HA.out, rfl⟩, Ext.refl _⟩
set_option maxRecDepth 100000 in
set_option maxHeartbeats 1000000 in
theorem containsInt {l : List Int} {v : Value} (hv : IntsAt w v l) (x : Int) : Calls Try.prog 121 #[v, .int .i64 x] w fun e w' => e = .returned (.bool (l.contains x)) ∧ Ext w w' := by
  have C := Lib.hid (indexInt hv x)
  have E := has1_all l x
  clear hv
  go_enter Try.func121, Try.ntmps121
  go_wp2_with fail
  refine C.out.mono ?_
  rintro e w2 ⟨r, rfl, hr, x⟩
  have X := Lib.hid x
  have HE := Lib.hid E
  clear E x
  rcases hr with ⟨h1, rfl⟩ | ⟨h1, h2, h3⟩
  · have H1 := Lib.hid h1
    clear h1
    go_wp2_with fail
    go_ret
    exact ⟨ret_bool (by rw [← HE.out, H1.out]; rfl), X.out⟩
  · have H1 := Lib.hid h1
    clear h1 h3
    go_wp2_with fail
    go_ret
    exact ⟨ret_bool (by rw [← HE.out, H1.out]; rfl), X.out⟩
end
end Go.Proofs.Ytadhkmplhgcgkaa.World
