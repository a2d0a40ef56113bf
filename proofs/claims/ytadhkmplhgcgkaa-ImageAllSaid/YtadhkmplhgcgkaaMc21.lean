/-
  Reach14, as one text (a claim has at most 60 files).
-/
import Derived.Test.YtadhkmplhgcgkaaMc20
import Derived.Deep.QuietTactic
import Derived.Laws.StructEq
namespace Go.Proofs.Ytadhkmplhgcgkaa.World
open Go.RowKit Go.Proofs.Ytadhkmplhgcgkaa.Plain
set_option linter.unusedVariables false
attribute [local go_sem ↓] Go.wp_at_zero Go.wp_at_succ
section
variable {w : World}
set_option maxRecDepth 100000 in
set_option maxHeartbeats 1000000 in
theorem equalI {v v' : Value} {n n' : Nat} {c c' : Nat → Nat → Value} (h : Row w v n 1 c) (h' : Row w v' n' 1 c') (y y' : Nat → Int) (hy : ∀ i, c i 0 = .int .i64 (y i)) (hy' : ∀ i, c' i 0 = .int .i64 (y' i)) :
    Calls Try.prog 57 #[v, v'] w fun e w' => e = .returned (.bool (decide (n = n') && allTo (fun i => y i == y' i) n)) ∧ Ext w w' := by
  obtain ⟨A, cp, rfl, h1, h2⟩ := h.form
  obtain ⟨A', cp', rfl, h1', h2'⟩ := h'.form
  have HR := Lib.hid h
  have HR' := Lib.hid h'
  obtain ⟨eq, heq⟩ : ∃ eq : Nat → Bool, ∀ i, eq i = (y i == y' i) := ⟨_, fun _ => rfl⟩
  rw [show (fun i => y i == y' i) = eq from funext (fun i => (heq i).symm)]
  have HE := Lib.hid heq
  have AF := Lib.hid (allTo_false eq n)
  have AS := Lib.hid (allTo_succ eq)
  clear h h' heq
  go_enter Try.func57, Try.ntmps57
  by_cases hn : n = n'
  · subst hn
    have eD : (decide (n = n) && allTo eq n) = allTo eq n := by simp
    rw [eD]
    clear eD
    go_wp2
    go_loopw [13] (fun iv wr => ∃ i : Nat, i ≤ n ∧ iv = .int .i64 i ∧ allTo eq i = true ∧ Ext w wr) (fun iv _ => n - (intOf iv).toNat)
    case atStart => exact ⟨0, Nat.zero_le _, rfl, rfl, Ext.refl _⟩
    case round =>
      obtain ⟨i, hi, rfl, ha, x⟩ := hrel
      have HA := Lib.hid ha
      have X := Lib.hid x
      by_cases hlt : i < n
      · obtain ⟨b, off, rfl, hb, hc⟩ := Row.at_ HR.out i hlt
        obtain ⟨b', off', rfl, hb', hc'⟩ := Row.at_ HR'.out i hlt
        have hbw := Nat.lt_of_lt_of_le hb x.below.size
        have hbw' := Nat.lt_of_lt_of_le hb' x.below.size
        have d0 := (x.below.cell (p := ⟨b, off + i * 1, none⟩) hb).trans (hc 0 (by omega))
        rw [Nat.mul_one] at d0
        have d0' := (x.below.cell (p := ⟨b', off' + i * 1, none⟩) hb').trans (hc' 0 (by omega))
        rw [Nat.mul_one] at d0'
        have iI : (i : Int) < (n : Int) := by omega
        have hE := HE.out i
        rw [hy] at d0
        rw [hy'] at d0'
        clear hc hc' hb hb' x ha
        generalize y i = u0 at *
        generalize y' i = u0' at *
        cases hp : eq i with
        | true =>
          have e1 : (u0 == u0') = true := by rw [← hE]; exact hp
          have e2 : (u0 != u0') = false := by unfold bne; rw [e1]; rfl
          have AN := Lib.hid (AS.out i HA.out hp)
          clear hp hE
          go_wp2_with fail
          go_quiet (fail)
          go_wp2_with fail
          go_roundw
          case rel => exact ⟨i + 1, by omega, by go_num, AN.out, X.out.drewN _⟩
          case measure => simp [intOf]; omega
        | false =>
          have e1 : (u0 == u0') = false := by rw [← hE]; exact hp
          have e2 : (u0 != u0') = true := by unfold bne; rw [e1]; rfl
          have AN := Lib.hid (AF.out i hlt hp)
          clear hp hE
          go_wp2_with fail
          go_quiet (fail)
          go_wp2_with fail
          go_ret
          exact ⟨ret_bool AN.out.symm, X.out.drewN _⟩
      · obtain rfl : i = n := by omega
        go_wp2_with fail
        go_ret
        exact ⟨ret_bool HA.out.symm, X.out⟩
  · have eD : (decide (n = n') && allTo eq n) = false := by simp [hn]
    have hnI : ((n : Int) == (n' : Int)) = false := beq_eq_false_iff_ne.2 (fun e => hn (by omega))
    rw [eD]
    clear eD
    go_wp2_with fail
    go_ret
    exact ⟨ret_bool rfl, Ext.refl _⟩
set_option maxRecDepth 100000 in
set_option maxHeartbeats 1000000 in
theorem equalS {v v' : Value} {n n' : Nat} {c c' : Nat → Nat → Value} (h : Row w v n 1 c) (h' : Row w v' n' 1 c') (y y' : Nat → ByteArray) (hy : ∀ i, c i 0 = .string (y i)) (hy' : ∀ i, c' i 0 = .string (y' i)) :
    Calls Try.prog 59 #[v, v'] w fun e w' => e = .returned (.bool (decide (n = n') && allTo (fun i => y i == y' i) n)) ∧ Ext w w' := by
  obtain ⟨A, cp, rfl, h1, h2⟩ := h.form
  obtain ⟨A', cp', rfl, h1', h2'⟩ := h'.form
  have HR := Lib.hid h
  have HR' := Lib.hid h'
  obtain ⟨eq, heq⟩ : ∃ eq : Nat → Bool, ∀ i, eq i = (y i == y' i) := ⟨_, fun _ => rfl⟩
  rw [show (fun i => y i == y' i) = eq from funext (fun i => (heq i).symm)]
  have HE := Lib.hid heq
  have AF := Lib.hid (allTo_false eq n)
  have AS := Lib.hid (allTo_succ eq)
  clear h h' heq
  go_enter Try.func59, Try.ntmps59
  by_cases hn : n = n'
  · subst hn
    have eD : (decide (n = n) && allTo eq n) = allTo eq n := by simp
    rw [eD]
    clear eD
    go_wp2
    go_loopw [13] (fun iv wr => ∃ i : Nat, i ≤ n ∧ iv = .int .i64 i ∧ allTo eq i = true ∧ Ext w wr) (fun iv _ => n - (intOf iv).toNat)
    case atStart => exact ⟨0, Nat.zero_le _, rfl, rfl, Ext.refl _⟩
    case round =>
      obtain ⟨i, hi, rfl, ha, x⟩ := hrel
      have HA := Lib.hid ha
      have X := Lib.hid x
      by_cases hlt : i < n
      · obtain ⟨b, off, rfl, hb, hc⟩ := Row.at_ HR.out i hlt
        obtain ⟨b', off', rfl, hb', hc'⟩ := Row.at_ HR'.out i hlt
        have hbw := Nat.lt_of_lt_of_le hb x.below.size
        have hbw' := Nat.lt_of_lt_of_le hb' x.below.size
        have d0 := (x.below.cell (p := ⟨b, off + i * 1, none⟩) hb).trans (hc 0 (by omega))
        rw [Nat.mul_one] at d0
        have d0' := (x.below.cell (p := ⟨b', off' + i * 1, none⟩) hb').trans (hc' 0 (by omega))
        rw [Nat.mul_one] at d0'
        have iI : (i : Int) < (n : Int) := by omega
        have hE := HE.out i
        rw [hy] at d0
        rw [hy'] at d0'
        clear hc hc' hb hb' x ha
        generalize y i = u0 at *
        generalize y' i = u0' at *
        cases hp : eq i with
        | true =>
          have e1 : (u0 == u0') = true := by rw [← hE]; exact hp
          have e3 : (u0.toList == u0'.toList) = true := by rw [← beq_toListBytes]; exact e1
          have e2 : (u0 != u0') = false := by unfold bne; rw [e1]; rfl
          have AN := Lib.hid (AS.out i HA.out hp)
          clear hp hE
          go_wp2_with fail
          go_quiet (fail)
          go_wp2_with fail
          go_roundw
          case rel => exact ⟨i + 1, by omega, by go_num, AN.out, X.out.drewN _⟩
          case measure => simp [intOf]; omega
        | false =>
          have e1 : (u0 == u0') = false := by rw [← hE]; exact hp
          have e3 : (u0.toList == u0'.toList) = false := by rw [← beq_toListBytes]; exact e1
          have e2 : (u0 != u0') = true := by unfold bne; rw [e1]; rfl
          have AN := Lib.hid (AF.out i hlt hp)
          clear hp hE
          go_wp2_with fail
          go_quiet (fail)
          go_wp2_with fail
          go_ret
          exact ⟨ret_bool AN.out.symm, X.out.drewN _⟩
      · obtain rfl : i = n := by omega
        go_wp2_with fail
        go_ret
        exact ⟨ret_bool HA.out.symm, X.out⟩
  · have eD : (decide (n = n') && allTo eq n) = false := by simp [hn]
    have hnI : ((n : Int) == (n' : Int)) = false := beq_eq_false_iff_ne.2 (fun e => hn (by omega))
    rw [eD]
    clear eD
    go_wp2_with fail
    go_ret
    exact ⟨ret_bool rfl, Ext.refl _⟩
set_option maxRecDepth 100000 in
set_option maxHeartbeats 1000000 in
theorem equalV {v v' : Value} {n n' : Nat} {c c' : Nat → Nat → Value} (h : Row w v n 2 c) (h' : Row w v' n' 2 c') (eq : Nat → Bool) (he : ∀ i, i < n → i < n' → ∀ W, (binOp .neq 37 (.agg #[c i 0, c i 1]) (.agg #[c' i 0, c' i 1])).run Try.prog W = .ok (.bool (!eq i)) W) :
    Calls Try.prog 98 #[v, v'] w fun e w' => e = .returned (.bool (decide (n = n') && allTo eq n)) ∧ Ext w w' := by
  obtain ⟨A, cp, rfl, h1, h2⟩ := h.form
  obtain ⟨A', cp', rfl, h1', h2'⟩ := h'.form
  have HR := Lib.hid h
  have HR' := Lib.hid h'
  have HE := Lib.hid he
  have AF := Lib.hid (allTo_false eq n)
  have AS := Lib.hid (allTo_succ eq)
  clear h h' he
  go_enter Try.func98, Try.ntmps98
  by_cases hn : n = n'
  · subst hn
    have eD : (decide (n = n) && allTo eq n) = allTo eq n := by simp
    rw [eD]
    clear eD
    go_wp2
    go_loopw [13] (fun iv wr => ∃ i : Nat, i ≤ n ∧ iv = .int .i64 i ∧ allTo eq i = true ∧ Ext w wr) (fun iv _ => n - (intOf iv).toNat)
    case atStart => exact ⟨0, Nat.zero_le _, rfl, rfl, Ext.refl _⟩
    case round =>
      obtain ⟨i, hi, rfl, ha, x⟩ := hrel
      have HA := Lib.hid ha
      have X := Lib.hid x
      by_cases hlt : i < n
      · obtain ⟨b, off, rfl, hb, hc⟩ := Row.at_ HR.out i hlt
        obtain ⟨b', off', rfl, hb', hc'⟩ := Row.at_ HR'.out i hlt
        have hbw := Nat.lt_of_lt_of_le hb x.below.size
        have hbw' := Nat.lt_of_lt_of_le hb' x.below.size
        have d0 := (x.below.cell (p := ⟨b, off + i * 2, none⟩) hb).trans (hc 0 (by omega))
        have d1 := (x.below.cell (p := ⟨b, off + i * 2 + 1, none⟩) hb).trans (hc 1 (by omega))
        have d0' := (x.below.cell (p := ⟨b', off' + i * 2, none⟩) hb').trans (hc' 0 (by omega))
        have d1' := (x.below.cell (p := ⟨b', off' + i * 2 + 1, none⟩) hb').trans (hc' 1 (by omega))
        have iI : (i : Int) < (n : Int) := by omega
        have hne := HE.out i hlt hlt
        clear hc hc' hb hb' x ha
        generalize c i 0 = u0 at *
        generalize c i 1 = u1 at *
        generalize c' i 0 = u0' at *
        generalize c' i 1 = u1' at *
        cases hp : eq i with
        | true =>
          rw [hp] at hne
          have AN := Lib.hid (AS.out i HA.out hp)
          clear hp
          go_wp2_with fail
          go_quiet (fail)
          go_wp2_with fail
          go_roundw
          case rel => exact ⟨i + 1, by omega, by go_num, AN.out, X.out.drewN _⟩
          case measure => simp [intOf]; omega
        | false =>
          rw [hp] at hne
          have AN := Lib.hid (AF.out i hlt hp)
          clear hp
          go_wp2_with fail
          go_quiet (fail)
          go_wp2_with fail
          go_ret
          exact ⟨ret_bool AN.out.symm, X.out.drewN _⟩
      · obtain rfl : i = n := by omega
        go_wp2_with fail
        go_ret
        exact ⟨ret_bool HA.out.symm, X.out⟩
  · have eD : (decide (n = n') && allTo eq n) = false := by simp [hn]
    have hnI : ((n : Int) == (n' : Int)) = false := beq_eq_false_iff_ne.2 (fun e => hn (by omega))
    rw [eD]
    clear eD
    go_wp2_with fail
    go_ret
    exact ⟨ret_bool rfl, Ext.refl _⟩
set_option maxRecDepth 100000 in
set_option maxHeartbeats 1000000 in
theorem equalW {v v' : Value} {n n' : Nat} {c c' : Nat → Nat → Value} (h : Row w v n 2 c) (h' : Row w v' n' 2 c') (eq : Nat → Bool) (he : ∀ i, i < n → i < n' → ∀ W, (binOp .neq 75 (.agg #[c i 0, c i 1]) (.agg #[c' i 0, c' i 1])).run Try.prog W = .ok (.bool (!eq i)) W) :
    Calls Try.prog 58 #[v, v'] w fun e w' => e = .returned (.bool (decide (n = n') && allTo eq n)) ∧ Ext w w' := by
  obtain ⟨A, cp, rfl, h1, h2⟩ := h.form
  obtain ⟨A', cp', rfl, h1', h2'⟩ := h'.form
  have HR := Lib.hid h
  have HR' := Lib.hid h'
  have HE := Lib.hid he
  have AF := Lib.hid (allTo_false eq n)
  have AS := Lib.hid (allTo_succ eq)
  clear h h' he
  go_enter Try.func58, Try.ntmps58
  by_cases hn : n = n'
  · subst hn
    have eD : (decide (n = n) && allTo eq n) = allTo eq n := by simp
    rw [eD]
    clear eD
    go_wp2
    go_loopw [13] (fun iv wr => ∃ i : Nat, i ≤ n ∧ iv = .int .i64 i ∧ allTo eq i = true ∧ Ext w wr) (fun iv _ => n - (intOf iv).toNat)
    case atStart => exact ⟨0, Nat.zero_le _, rfl, rfl, Ext.refl _⟩
    case round =>
      obtain ⟨i, hi, rfl, ha, x⟩ := hrel
      have HA := Lib.hid ha
      have X := Lib.hid x
      by_cases hlt : i < n
      · obtain ⟨b, off, rfl, hb, hc⟩ := Row.at_ HR.out i hlt
        obtain ⟨b', off', rfl, hb', hc'⟩ := Row.at_ HR'.out i hlt
        have hbw := Nat.lt_of_lt_of_le hb x.below.size
        have hbw' := Nat.lt_of_lt_of_le hb' x.below.size
        have d0 := (x.below.cell (p := ⟨b, off + i * 2, none⟩) hb).trans (hc 0 (by omega))
        have d1 := (x.below.cell (p := ⟨b, off + i * 2 + 1, none⟩) hb).trans (hc 1 (by omega))
        have d0' := (x.below.cell (p := ⟨b', off' + i * 2, none⟩) hb').trans (hc' 0 (by omega))
        have d1' := (x.below.cell (p := ⟨b', off' + i * 2 + 1, none⟩) hb').trans (hc' 1 (by omega))
        have iI : (i : Int) < (n : Int) := by omega
        have hne := HE.out i hlt hlt
        clear hc hc' hb hb' x ha
        generalize c i 0 = u0 at *
        generalize c i 1 = u1 at *
        generalize c' i 0 = u0' at *
        generalize c' i 1 = u1' at *
        cases hp : eq i with
        | true =>
          rw [hp] at hne
          have AN := Lib.hid (AS.out i HA.out hp)
          clear hp
          go_wp2_with fail
          go_quiet (fail)
          go_wp2_with fail
          go_roundw
          case rel => exact ⟨i + 1, by omega, by go_num, AN.out, X.out.drewN _⟩
          case measure => simp [intOf]; omega
        | false =>
          rw [hp] at hne
          have AN := Lib.hid (AF.out i hlt hp)
          clear hp
          go_wp2_with fail
          go_quiet (fail)
          go_wp2_with fail
          go_ret
          exact ⟨ret_bool AN.out.symm, X.out.drewN _⟩
      · obtain rfl : i = n := by omega
        go_wp2_with fail
        go_ret
        exact ⟨ret_bool HA.out.symm, X.out⟩
  · have eD : (decide (n = n') && allTo eq n) = false := by simp [hn]
    have hnI : ((n : Int) == (n' : Int)) = false := beq_eq_false_iff_ne.2 (fun e => hn (by omega))
    rw [eD]
    clear eD
    go_wp2_with fail
    go_ret
    exact ⟨ret_bool rfl, Ext.refl _⟩
end
end Go.Proofs.Ytadhkmplhgcgkaa.World
