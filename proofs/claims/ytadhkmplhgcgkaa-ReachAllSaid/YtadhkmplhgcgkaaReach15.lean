/-
  reach.thing; slices.EqualFunc of things by it.
-/
import Derived.Test.YtadhkmplhgcgkaaReach14
namespace Go.Proofs.Ytadhkmplhgcgkaa.World
open Go.RowKit Go.Proofs.Ytadhkmplhgcgkaa.Plain
set_option linter.unusedVariables false
attribute [local go_sem ↓] Go.wp_at_zero Go.wp_at_succ
def eqPV (u v : PV) : Bool := u.obj == v.obj && u.n == v.n
def eqFs (F F' : List PV) : Bool := decide (F.length = F'.length) && allTo (fun i => eqPV (vAt F i) (vAt F' i)) F.length
def eqT (t t' : PT) : Bool := t.cls == t'.cls && (t.fmt == t'.fmt && (t.hash == t'.hash && (t.fin == t'.fin && (t.B == t'.B && eqFs t.F t'.F))))
def eqL (L L' : List PT) : Bool := decide (L.length = L'.length) && allTo (fun i => eqT (tAt L i) (tAt L' i)) L.length
def aggT (t : PT) (vF : Value) : Array Value := #[.int .i64 t.cls, .int .i64 t.fmt, .int .i64 t.hash, .bool t.fin, vF, .string t.B]
theorem val_ne (u v : PV) (W : World) : (binOp .neq 37 (.agg #[cV u 0, cV u 1]) (.agg #[cV v 0, cV v 1])).run Try.prog W = .ok (.bool (!eqPV u v)) W := by
  unfold eqPV cV
  obtain ⟨o, n⟩ := u
  obtain ⟨o', n'⟩ := v
  rw [run_neq_struct, run_equalIn_agg _ _ _ _ _ (by kernel_rfl) (by kernel_rfl)]
  simp only [Program.fieldsOf, Try.underlying37]
  go_simp
  by_cases h1 : o = o' <;> by_cases h2 : n = n' <;> simp [h1, h2]
def eqP (u v : Int × Int) : Bool := u.1 == v.1 && u.2 == v.2
theorem wait_ne (u v : Int × Int) (W : World) : (binOp .neq 75 (.agg #[cW u 0, cW u 1]) (.agg #[cW v 0, cW v 1])).run Try.prog W = .ok (.bool (!eqP u v)) W := by
  unfold eqP cW
  obtain ⟨o, n⟩ := u
  obtain ⟨o', n'⟩ := v
  rw [run_neq_struct, run_equalIn_agg _ _ _ _ _ (by kernel_rfl) (by kernel_rfl)]
  simp only [Program.fieldsOf, Try.underlying75]
  go_simp
  by_cases h1 : o = o' <;> by_cases h2 : n = n' <;> simp [h1, h2]
section
variable {w : World}
theorem equalF {v v' : Value} {F F' : List PV} (h : ValsAt w v F) (h' : ValsAt w v' F') : Calls Try.prog 98 #[v, v'] w fun e w' => e = .returned (.bool (eqFs F F')) ∧ Ext w w' :=
  equalV h h' (fun i => eqPV (vAt F i) (vAt F' i)) (fun i _ _ W => val_ne _ _ W)
set_option maxRecDepth 100000 in
set_option maxHeartbeats 2000000 in
theorem thing_ {t t' : PT} {vF vF' : Value} (h : ValsAt w vF t.F) (h' : ValsAt w vF' t'.F) : Calls Try.prog 56 #[.agg (aggT t vF), .agg (aggT t' vF')] w fun e w' => e = .returned (.bool (eqT t t')) ∧ Ext w w' := by
  have CE := Lib.hid (fun W2 (x : Ext w W2) => equalF (h.ext x) (h'.ext x))
  obtain ⟨A, cp, e1, _, _⟩ := Row.form h
  obtain ⟨A', cp', e1', _, _⟩ := Row.form h'
  have e1 : vF = .slice A t.F.length cp := e1
  have e1' : vF' = .slice A' t'.F.length cp' := e1'
  subst e1 e1'
  clear h h'
  obtain ⟨c1, c2, c3, c4, F, B⟩ := t
  obtain ⟨d1, d2, d3, d4, G, D⟩ := t'
  unfold aggT
  unfold eqT
  show Calls _ _ _ _ fun e w' => e = .returned (.bool (c1 == d1 && (c2 == d2 && (c3 == d3 && (c4 == d4 && (B == D && eqFs F G)))))) ∧ Ext w w'
  have hS := beq_toListBytes B D
  go_enter Try.func56, Try.ntmps56
  cases h1 : (c1 == d1) with
  | false =>
      clear CE
      go_wp2_with fail
      go_ret
      exact ⟨ret_bool (by simp), ((Ext.refl _).alloc _).alloc _⟩
  | true =>
      cases h2 : (c2 == d2) with
      | false =>
          clear CE
          go_wp2_with fail
          go_ret
          exact ⟨ret_bool (by simp), ((Ext.refl _).alloc _).alloc _⟩
      | true =>
          cases h3 : (c3 == d3) with
          | false =>
              clear CE
              go_wp2_with fail
              go_ret
              exact ⟨ret_bool (by simp), ((Ext.refl _).alloc _).alloc _⟩
          | true =>
              cases c4 with
              | false =>
                cases d4 with
                | false =>
                  cases h5 : (B == D) with
                  | false =>
                      rw [h5] at hS
                      replace hS := hS.symm
                      clear CE
                      go_wp2_with fail
                      go_ret
                      exact ⟨ret_bool (by simp), ((Ext.refl _).alloc _).alloc _⟩
                  | true =>
                      rw [h5] at hS
                      replace hS := hS.symm
                      have CF : Hid (∀ W2, Ext w W2 → Calls Try.prog 98 #[.slice A F.length cp, .slice A' G.length cp'] W2 fun e w' => e = .returned (.bool (eqFs F G)) ∧ Ext W2 w') := Lib.hid CE.out
                      generalize eqFs F G = q at *
                      clear CE
                      go_wp2_with fail
                      refine (CF.out _ (((Ext.refl _).alloc _).alloc _)).mono ?_
                      rintro e w2 ⟨rfl, x2⟩
                      have X2 := Lib.hid (Ext.trans (((Ext.refl w).alloc _).alloc _) x2)
                      clear x2
                      go_wp2_with fail
                      go_ret
                      exact ⟨ret_bool (by simp), X2.out⟩
                | true =>
                  clear CE
                  go_wp2_with fail
                  go_ret
                  exact ⟨ret_bool rfl, ((Ext.refl _).alloc _).alloc _⟩
              | true =>
                cases d4 with
                | false =>
                  clear CE
                  go_wp2_with fail
                  go_ret
                  exact ⟨ret_bool rfl, ((Ext.refl _).alloc _).alloc _⟩
                | true =>
                  cases h5 : (B == D) with
                  | false =>
                      rw [h5] at hS
                      replace hS := hS.symm
                      clear CE
                      go_wp2_with fail
                      go_ret
                      exact ⟨ret_bool (by simp), ((Ext.refl _).alloc _).alloc _⟩
                  | true =>
                      rw [h5] at hS
                      replace hS := hS.symm
                      have CF : Hid (∀ W2, Ext w W2 → Calls Try.prog 98 #[.slice A F.length cp, .slice A' G.length cp'] W2 fun e w' => e = .returned (.bool (eqFs F G)) ∧ Ext W2 w') := Lib.hid CE.out
                      generalize eqFs F G = q at *
                      clear CE
                      go_wp2_with fail
                      refine (CF.out _ (((Ext.refl _).alloc _).alloc _)).mono ?_
                      rintro e w2 ⟨rfl, x2⟩
                      have X2 := Lib.hid (Ext.trans (((Ext.refl w).alloc _).alloc _) x2)
                      clear x2
                      go_wp2_with fail
                      go_ret
                      exact ⟨ret_bool (by simp), X2.out⟩
set_option maxRecDepth 100000 in
set_option maxHeartbeats 2000000 in
theorem equalT {v v' : Value} {L L' : List PT} {fs fs' : Nat → Value} (h : ThingsAt w v L fs) (h' : ThingsAt w v' L' fs') :
    Calls Try.prog 55 #[v, v', .func (.func 56) #[] #[]] w fun e w' => e = .returned (.bool (eqL L L')) ∧ Ext w w' := by
  obtain ⟨A, cp, e1, l1, l2⟩ := h.row.form
  obtain ⟨A', cp', e1', l1', l2'⟩ := h'.row.form
  have e1 : v = .slice A L.length cp := e1
  have e1' : v' = .slice A' L'.length cp' := e1'
  subst e1 e1'
  have HL := Lib.hid (fun i (hi : i < L.length) => h.cells rfl i hi)
  have HV := Lib.hid (fun i (hi : i < L.length) => h.flds i hi)
  have HL' := Lib.hid (fun i (hi : i < L'.length) => h'.cells rfl i hi)
  have HV' := Lib.hid (fun i (hi : i < L'.length) => h'.flds i hi)
  clear h h'
  have hk : ∀ (args : Array Value) (W : World), (callFunc 56 args).run Try.prog W = .ok (.enter 56 args) W := fun _ _ => by kernel_rfl
  have AF := Lib.hid (allTo_false (fun i => eqT (tAt L i) (tAt L' i)) L.length)
  have AS := Lib.hid (allTo_succ (fun i => eqT (tAt L i) (tAt L' i)))
  go_enter Try.func55, Try.ntmps55
  by_cases hn : L.length = L'.length
  · have HN := Lib.hid hn
    have hnI : ((L.length : Int) == (L'.length : Int)) = true := beq_iff_eq.2 (by omega)
    have eD : Hid (eqL L L' = allTo (fun i => eqT (tAt L i) (tAt L' i)) L.length) := Lib.hid (by unfold eqL; rw [hn]; simp)
    have hnB : ((L.length : Int) != (L'.length : Int)) = false := by unfold bne; rw [hnI]; rfl
    clear hn
    go_wp2_with fail
    clear hnI hnB
    go_loopw [17] (fun iv wr => ∃ i : Nat, i ≤ L.length ∧ iv = .int .i64 i ∧ allTo (fun i => eqT (tAt L i) (tAt L' i)) i = true ∧ Ext w wr) (fun iv _ => L.length - (intOf iv).toNat)
    case atStart => exact ⟨0, Nat.zero_le _, rfl, rfl, Ext.refl _⟩
    case round =>
      obtain ⟨i, hi, rfl, ha, x⟩ := hrel
      have HA := Lib.hid ha
      have X := Lib.hid x
      by_cases hlt : i < L.length
      · have hlt' : i < L'.length := by rw [← HN.out]; exact hlt
        have iI : (i : Int) < (L.length : Int) := by omega
        have iI' : (i : Int) < (L'.length : Int) := by omega
        obtain ⟨b, off, rfl, hb, d0, d1, d2, d3, d4, d5⟩ := HL.out i hlt
        obtain ⟨b', off', rfl, hb', d0', d1', d2', d3', d4', d5'⟩ := HL'.out i hlt'
        have vf := HV.out i hlt
        have vf' := HV'.out i hlt'
        obtain ⟨AF1, cF1, ef, f1, f2⟩ := Row.form vf
        obtain ⟨AF2, cF2, ef', f1', f2'⟩ := Row.form vf'
        replace ef : fs i = .slice AF1 (tAt L i).F.length cF1 := ef
        replace ef' : fs' i = .slice AF2 (tAt L' i).F.length cF2 := ef'
        rw [ef] at d4 vf
        rw [ef'] at d4' vf'
        replace d0 := (x.below.cell (p := ⟨b, off + i * 6, none⟩) hb).trans d0
        replace d1 := (x.below.cell (p := ⟨b, off + i * 6 + 1, none⟩) hb).trans d1
        replace d2 := (x.below.cell (p := ⟨b, off + i * 6 + 2, none⟩) hb).trans d2
        replace d3 := (x.below.cell (p := ⟨b, off + i * 6 + 3, none⟩) hb).trans d3
        replace d4 := (x.below.cell (p := ⟨b, off + i * 6 + 4, none⟩) hb).trans d4
        replace d5 := (x.below.cell (p := ⟨b, off + i * 6 + 5, none⟩) hb).trans d5
        replace d0' := (x.below.cell (p := ⟨b', off' + i * 6, none⟩) hb').trans d0'
        replace d1' := (x.below.cell (p := ⟨b', off' + i * 6 + 1, none⟩) hb').trans d1'
        replace d2' := (x.below.cell (p := ⟨b', off' + i * 6 + 2, none⟩) hb').trans d2'
        replace d3' := (x.below.cell (p := ⟨b', off' + i * 6 + 3, none⟩) hb').trans d3'
        replace d4' := (x.below.cell (p := ⟨b', off' + i * 6 + 4, none⟩) hb').trans d4'
        replace d5' := (x.below.cell (p := ⟨b', off' + i * 6 + 5, none⟩) hb').trans d5'
        have hbw := Nat.lt_of_lt_of_le hb x.below.size
        have hbw' := Nat.lt_of_lt_of_le hb' x.below.size
        have CT := Lib.hid (fun W2 (y : Ext wr W2) => thing_ (t := tAt L i) (t' := tAt L' i) ((show ValsAt w (.slice AF1 (tAt L i).F.length cF1) (tAt L i).F from vf).ext (x.trans y)) ((show ValsAt w (.slice AF2 (tAt L' i).F.length cF2) (tAt L' i).F from vf').ext (x.trans y)))
        unfold aggT at CT
        have XW := Lib.hid (((Ext.refl wr).alloc (.cells (aggT (tAt L i) (.slice AF1 (tAt L i).F.length cF1)) 57)).alloc (.cells (aggT (tAt L' i) (.slice AF2 (tAt L' i).F.length cF2)) 57))
        clear vf vf' ef ef' ha hb hb' x
        have YES := Lib.hid (fun hq => AS.out i HA.out hq)
        have NO := Lib.hid (fun hq => AF.out i hlt hq)
        replace YES : Hid (eqT (tAt L i) (tAt L' i) = true → allTo (fun i => eqT (tAt L i) (tAt L' i)) (i + 1) = true) := YES
        replace NO : Hid (eqT (tAt L i) (tAt L' i) = false → allTo (fun i => eqT (tAt L i) (tAt L' i)) L.length = false) := NO
        cases hp : eqT (tAt L i) (tAt L' i) with
        | true =>
          have YE := Lib.hid (YES.out hp)
          rw [hp] at CT
          clear hp YES NO
          go_wp2_with fail
          refine (CT.out _ XW.out).mono ?_
          rintro e w2 ⟨rfl, x2⟩
          have X2 := Lib.hid ((X.out.trans XW.out).trans x2)
          clear x2 CT XW
          go_wp2_with fail
          go_roundw
          case rel => exact ⟨i + 1, by omega, by go_num, YE.out, X2.out⟩
          case measure => simp [intOf]; omega
        | false =>
          have YE := Lib.hid (NO.out hp)
          rw [hp] at CT
          clear hp YES NO
          go_wp2_with fail
          refine (CT.out _ XW.out).mono ?_
          rintro e w2 ⟨rfl, x2⟩
          have X2 := Lib.hid ((X.out.trans XW.out).trans x2)
          clear x2 CT XW
          go_wp2_with fail
          go_ret
          exact ⟨ret_bool (by rw [eD.out, YE.out]), X2.out⟩
      · obtain rfl : i = L.length := by omega
        go_wp2_with fail
        go_ret
        exact ⟨ret_bool (by rw [eD.out, HA.out]), X.out⟩
  · have eD : Hid (eqL L L' = false) := Lib.hid (by unfold eqL; simp [hn])
    have hnI : ((L.length : Int) == (L'.length : Int)) = false := beq_eq_false_iff_ne.2 (fun e => hn (by omega))
    clear hn
    go_wp2_with fail
    go_ret
    exact ⟨ret_bool eD.out.symm, Ext.refl _⟩
end
end Go.Proofs.Ytadhkmplhgcgkaa.World
