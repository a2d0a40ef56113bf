/-
  Reach15, Two, as one text (a claim has at most 60 files).
-/
import Derived.Test.YtadhkmplhgcgkaaMc21
import Derived.Test.YtadhkmplhgcgkaaMc08
namespace Go.Proofs.Ytadhkmplhgcgkaa.World
open Go.RowKit Go.Proofs.Ytadhkmplhgcgkaa.Plain
set_option linter.unusedVariables false
attribute [local go_sem ↓] Go.wp_at_zero Go.wp_at_succ
def eqPV (u v : PV) : Bool := u.obj == v.obj && u.n == v.n
def eqFs (F F' : List PV) : Bool := decide (F.length = F'.length) && allTo (fun i => eqPV (vAt F i) (vAt F' i)) F.length
def eqT (t t' : PT) : Bool := t.cls == t'.cls && (t.fmt == t'.fmt && (t.hash == t'.hash && (t.fin == t'.fin && (t.B == t'.B && eqFs t.F t'.F))))
def eqL (L L' : List PT) : Bool := decide (L.length = L'.length) && allTo (fun i => eqT (tAt L i) (tAt L' i)) L.length
def aggT (t : PT) (vF : Value) : Array Value := #[.int .i64 t.cls, .int .i64 t.fmt, .int .i64 t.hash, .bool t.fin, vF, .string t.B]
theorem val_ne (u v : PV) (W : World) : (binOp .neq 37 (.agg #[cV u 0, cV u 1]) (.agg #[cV v 0, cV v 1])).run Try.prog W = .ok (.bool (!eqPV u v)) W := by
  unfold eqPV cV
  obtain ⟨o, n⟩ := u
  obtain ⟨o', n'⟩ := v
  rw [run_neq_struct, run_equalIn_agg _ _ _ _ _ (by kernel_rfl) (by kernel_rfl)]
  simp only [Program.fieldsOf, Try.underlying37]
  go_simp
  by_cases h1 : o = o' <;> by_cases h2 : n = n' <;> simp [h1, h2]
def eqP (u v : Int × Int) : Bool := u.1 == v.1 && u.2 == v.2
theorem wait_ne (u v : Int × Int) (W : World) : (binOp .neq 75 (.agg #[cW u 0, cW u 1]) (.agg #[cW v 0, cW v 1])).run Try.prog W = .ok (.bool (!eqP u v)) W := by
  unfold eqP cW
  obtain ⟨o, n⟩ := u
  obtain ⟨o', n'⟩ := v
  rw [run_neq_struct, run_equalIn_agg _ _ _ _ _ (by kernel_rfl) (by kernel_rfl)]
  simp only [Program.fieldsOf, Try.underlying75]
  go_simp
  by_cases h1 : o = o' <;> by_cases h2 : n = n' <;> simp [h1, h2]
section
variable {w : World}
theorem equalF {v v' : Value} {F F' : List PV} (h : ValsAt w v F) (h' : ValsAt w v' F') : Calls Try.prog 98 #[v, v'] w fun e w' => e = .returned (.bool (eqFs F F')) ∧ Ext w w' :=
  equalV h h' (fun i => eqPV (vAt F i) (vAt F' i)) (fun i _ _ W => val_ne _ _ W)
set_option maxRecDepth 100000 in
set_option maxHeartbeats 2000000 in
theorem thing_ {t t' : PT} {vF vF' : Value} (h : ValsAt w vF t.F) (h' : ValsAt w vF' t'.F) : Calls Try.prog 56 #[.agg (aggT t vF), .agg (aggT t' vF')] w fun e w' => e = .returned (.bool (eqT t t')) ∧ Ext w w' := by
  have CE := Lib.hid (fun W2 (x : Ext w W2) => equalF (h.ext x) (h'.ext x))
  obtain ⟨A, cp, e1, _, _⟩ := Row.form h
  obtain ⟨A', cp', e1', _, _⟩ := Row.form h'
  have e1 : vF = .slice A t.F.length cp := e1
  have e1' : vF' = .slice A' t'.F.length cp' := e1'
  subst e1 e1'
  clear h h'
  obtain ⟨c1, c2, c3, c4, F, B⟩ := t
  obtain ⟨d1, d2, d3, d4, G, D⟩ := t'
  unfold aggT
  unfold eqT
  show Calls _ _ _ _ fun e w' => e = .returned (.bool (c1 == d1 && (c2 == d2 && (c3 == d3 && (c4 == d4 && (B == D && eqFs F G)))))) ∧ Ext w w'
  have hS := beq_toListBytes B D
  go_enter Try.func56, Try.ntmps56
  cases h1 : (c1 == d1) with
  | false =>
      clear CE
      go_wp2_with fail
      go_ret
      exact ⟨ret_bool (by simp), ((Ext.refl _).alloc _).alloc _⟩
  | true =>
      cases h2 : (c2 == d2) with
      | false =>
          clear CE
          go_wp2_with fail
          go_ret
          exact ⟨ret_bool (by simp), ((Ext.refl _).alloc _).alloc _⟩
      | true =>
          cases h3 : (c3 == d3) with
          | false =>
              clear CE
              go_wp2_with fail
              go_ret
              exact ⟨ret_bool (by simp), ((Ext.refl _).alloc _).alloc _⟩
          | true =>
              cases c4 with
              | false =>
                cases d4 with
                | false =>
                  cases h5 : (B == D) with
                  | false =>
                      rw [h5] at hS
                      replace hS := hS.symm
                      clear CE
                      go_wp2_with fail
                      go_ret
                      exact ⟨ret_bool (by simp), ((Ext.refl _).alloc _).alloc _⟩
                  | true =>
                      rw [h5] at hS
                      replace hS := hS.symm
                      have CF : Hid (∀ W2, Ext w W2 → Calls Try.prog 98 #[.slice A F.length cp, .slice A' G.length cp'] W2 fun e w' => e = .returned (.bool (eqFs F G)) ∧ Ext W2 w') := Lib.hid CE.out
                      generalize eqFs F G = q at *
                      clear CE
                      go_wp2_with fail
                      refine (CF.out _ (((Ext.refl _).alloc _).alloc _)).mono ?_
                      rintro e w2 ⟨rfl, x2⟩
                      have X2 := Lib.hid (Ext.trans (((Ext.refl w).alloc _).alloc _) x2)
                      clear x2
                      go_wp2_with fail
                      go_ret
                      exact ⟨ret_bool (by simp), X2.out⟩
                | true =>
                  clear CE
                  go_wp2_with fail
                  go_ret
                  exact ⟨ret_bool rfl, ((Ext.refl _).alloc _).alloc _⟩
              | true =>
                cases d4 with
                | false =>
                  clear CE
                  go_wp2_with fail
                  go_ret
                  exact ⟨ret_bool rfl, ((Ext.refl _).alloc _).alloc _⟩
                | true =>
                  cases h5 : (B == D) with
                  | false =>
                      rw [h5] at hS
                      replace hS := hS.symm
                      clear CE
                      go_wp2_with fail
                      go_ret
                      exact ⟨ret_bool (by simp), ((Ext.refl _).alloc _).alloc _⟩
                  | true =>
                      rw [h5] at hS
                      replace hS := hS.symm
                      have CF : Hid (∀ W2, Ext w W2 → Calls Try.prog 98 #[.slice A F.length cp, .slice A' G.length cp'] W2 fun e w' => e = .returned (.bool (eqFs F G)) ∧ Ext W2 w') := Lib.hid CE.out
                      generalize eqFs F G = q at *
                      clear CE
                      go_wp2_with fail
                      refine (CF.out _ (((Ext.refl _).alloc _).alloc _)).mono ?_
                      rintro e w2 ⟨rfl, x2⟩
                      have X2 := Lib.hid (Ext.trans (((Ext.refl w).alloc _).alloc _) x2)
                      clear x2
                      go_wp2_with fail
                      go_ret
                      exact ⟨ret_bool (by simp), X2.out⟩
set_option maxRecDepth 100000 in
set_option maxHeartbeats 2000000 in
theorem equalT {v v' : Value} {L L' : List PT} {fs fs' : Nat → Value} (h : ThingsAt w v L fs) (h' : ThingsAt w v' L' fs') :
    Calls Try.prog 55 #[v, v', .func (.func 56) #[] #[]] w fun e w' => e = .returned (.bool (eqL L L')) ∧ Ext w w' := by
  obtain ⟨A, cp, e1, l1, l2⟩ := h.row.form
  obtain ⟨A', cp', e1', l1', l2'⟩ := h'.row.form
  have e1 : v = .slice A L.length cp := e1
  have e1' : v' = .slice A' L'.length cp' := e1'
  subst e1 e1'
  have HL := Lib.hid (fun i (hi : i < L.length) => h.cells rfl i hi)
  have HV := Lib.hid (fun i (hi : i < L.length) => h.flds i hi)
  have HL' := Lib.hid (fun i (hi : i < L'.length) => h'.cells rfl i hi)
  have HV' := Lib.hid (fun i (hi : i < L'.length) => h'.flds i hi)
  clear h h'
  have hk : ∀ (args : Array Value) (W : World), (callFunc 56 args).run Try.prog W = .ok (.enter 56 args) W := fun _ _ => by kernel_rfl
  have AF := Lib.hid (allTo_false (fun i => eqT (tAt L i) (tAt L' i)) L.length)
  have AS := Lib.hid (allTo_succ (fun i => eqT (tAt L i) (tAt L' i)))
  go_enter Try.func55, Try.ntmps55
  by_cases hn : L.length = L'.length
  · have HN := Lib.hid hn
    have hnI : ((L.length : Int) == (L'.length : Int)) = true := beq_iff_eq.2 (by omega)
    have eD : Hid (eqL L L' = allTo (fun i => eqT (tAt L i) (tAt L' i)) L.length) := Lib.hid (by unfold eqL; rw [hn]; simp)
    have hnB : ((L.length : Int) != (L'.length : Int)) = false := by unfold bne; rw [hnI]; rfl
    clear hn
    go_wp2_with fail
    clear hnI hnB
    go_loopw [17] (fun iv wr => ∃ i : Nat, i ≤ L.length ∧ iv = .int .i64 i ∧ allTo (fun i => eqT (tAt L i) (tAt L' i)) i = true ∧ Ext w wr) (fun iv _ => L.length - (intOf iv).toNat)
    case atStart => exact ⟨0, Nat.zero_le _, rfl, rfl, Ext.refl _⟩
    case round =>
      obtain ⟨i, hi, rfl, ha, x⟩ := hrel
      have HA := Lib.hid ha
      have X := Lib.hid x
      by_cases hlt : i < L.length
      · have hlt' : i < L'.length := by rw [← HN.out]; exact hlt
        have iI : (i : Int) < (L.length : Int) := by omega
        have iI' : (i : Int) < (L'.length : Int) := by omega
        obtain ⟨b, off, rfl, hb, d0, d1, d2, d3, d4, d5⟩ := HL.out i hlt
        obtain ⟨b', off', rfl, hb', d0', d1', d2', d3', d4', d5'⟩ := HL'.out i hlt'
        have vf := HV.out i hlt
        have vf' := HV'.out i hlt'
        obtain ⟨AF1, cF1, ef, f1, f2⟩ := Row.form vf
        obtain ⟨AF2, cF2, ef', f1', f2'⟩ := Row.form vf'
        replace ef : fs i = .slice AF1 (tAt L i).F.length cF1 := ef
        replace ef' : fs' i = .slice AF2 (tAt L' i).F.length cF2 := ef'
        rw [ef] at d4 vf
        rw [ef'] at d4' vf'
        replace d0 := (x.below.cell (p := ⟨b, off + i * 6, none⟩) hb).trans d0
        replace d1 := (x.below.cell (p := ⟨b, off + i * 6 + 1, none⟩) hb).trans d1
        replace d2 := (x.below.cell (p := ⟨b, off + i * 6 + 2, none⟩) hb).trans d2
        replace d3 := (x.below.cell (p := ⟨b, off + i * 6 + 3, none⟩) hb).trans d3
        replace d4 := (x.below.cell (p := ⟨b, off + i * 6 + 4, none⟩) hb).trans d4
        replace d5 := (x.below.cell (p := ⟨b, off + i * 6 + 5, none⟩) hb).trans d5
        replace d0' := (x.below.cell (p := ⟨b', off' + i * 6, none⟩) hb').trans d0'
        replace d1' := (x.below.cell (p := ⟨b', off' + i * 6 + 1, none⟩) hb').trans d1'
        replace d2' := (x.below.cell (p := ⟨b', off' + i * 6 + 2, none⟩) hb').trans d2'
        replace d3' := (x.below.cell (p := ⟨b', off' + i * 6 + 3, none⟩) hb').trans d3'
        replace d4' := (x.below.cell (p := ⟨b', off' + i * 6 + 4, none⟩) hb').trans d4'
        replace d5' := (x.below.cell (p := ⟨b', off' + i * 6 + 5, none⟩) hb').trans d5'
        have hbw := Nat.lt_of_lt_of_le hb x.below.size
        have hbw' := Nat.lt_of_lt_of_le hb' x.below.size
        have CT := Lib.hid (fun W2 (y : Ext wr W2) => thing_ (t := tAt L i) (t' := tAt L' i) ((show ValsAt w (.slice AF1 (tAt L i).F.length cF1) (tAt L i).F from vf).ext (x.trans y)) ((show ValsAt w (.slice AF2 (tAt L' i).F.length cF2) (tAt L' i).F from vf').ext (x.trans y)))
        unfold aggT at CT
        have XW := Lib.hid (((Ext.refl wr).alloc (.cells (aggT (tAt L i) (.slice AF1 (tAt L i).F.length cF1)) 57)).alloc (.cells (aggT (tAt L' i) (.slice AF2 (tAt L' i).F.length cF2)) 57))
        clear vf vf' ef ef' ha hb hb' x
        have YES := Lib.hid (fun hq => AS.out i HA.out hq)
        have NO := Lib.hid (fun hq => AF.out i hlt hq)
        replace YES : Hid (eqT (tAt L i) (tAt L' i) = true → allTo (fun i => eqT (tAt L i) (tAt L' i)) (i + 1) = true) := YES
        replace NO : Hid (eqT (tAt L i) (tAt L' i) = false → allTo (fun i => eqT (tAt L i) (tAt L' i)) L.length = false) := NO
        cases hp : eqT (tAt L i) (tAt L' i) with
        | true =>
          have YE := Lib.hid (YES.out hp)
          rw [hp] at CT
          clear hp YES NO
          go_wp2_with fail
          refine (CT.out _ XW.out).mono ?_
          rintro e w2 ⟨rfl, x2⟩
          have X2 := Lib.hid ((X.out.trans XW.out).trans x2)
          clear x2 CT XW
          go_wp2_with fail
          go_roundw
          case rel => exact ⟨i + 1, by omega, by go_num, YE.out, X2.out⟩
          case measure => simp [intOf]; omega
        | false =>
          have YE := Lib.hid (NO.out hp)
          rw [hp] at CT
          clear hp YES NO
          go_wp2_with fail
          refine (CT.out _ XW.out).mono ?_
          rintro e w2 ⟨rfl, x2⟩
          have X2 := Lib.hid ((X.out.trans XW.out).trans x2)
          clear x2 CT XW
          go_wp2_with fail
          go_ret
          exact ⟨ret_bool (by rw [eD.out, YE.out]), X2.out⟩
      · obtain rfl : i = L.length := by omega
        go_wp2_with fail
        go_ret
        exact ⟨ret_bool (by rw [eD.out, HA.out]), X.out⟩
  · have eD : Hid (eqL L L' = false) := Lib.hid (by unfold eqL; simp [hn])
    have hnI : ((L.length : Int) == (L'.length : Int)) = false := beq_eq_false_iff_ne.2 (fun e => hn (by omega))
    clear hn
    go_wp2_with fail
    go_ret
    exact ⟨ret_bool eD.out.symm, Ext.refl _⟩
end
end Go.Proofs.Ytadhkmplhgcgkaa.World
namespace Go.Proofs.Ytadhkmplhgcgkaa.World
open Go.RowKit Go.Proofs.Ytadhkmplhgcgkaa.Plain
set_option linter.unusedVariables false
def put2 (s : Nat → Value) (j : Nat) (v : Value) : Nat → Value := fun k => if k = j then v else s k
def bit2 (L : Nat → Bool) (j : Nat) : Nat → Bool := fun k => if k = j then true else L k
def ptr2 (g : Nat) : Value := .pointer (some ⟨g, 0, none⟩)
theorem ptr2_ne {g g' : Nat} (h : g ≠ g') : ptr2 g ≠ ptr2 g' := fun e => by
  injection e with e; injection e with e; injection e with e; exact h e
/-- every edge that binds leads back -/
def backM (md : Region.Mode) (ops : Array Oper) : Bool := (List.range ops.size).all fun i => ((ops[i]?).map (·.after.all fun e => !Region.binds md e || decide (e.on < i))).getD true
theorem all_listed_m {ops : Array Oper} {md : Region.Mode} (hb : backM md ops = true) {listed : Array Bool} (hs : listed.size = ops.size) (hr : Region.ready md ops listed = []) : ∀ i, i < ops.size → listed.getD i false = true := by
  intro i
  induction i using Nat.strongRecOn with
  | ind i ih =>
    intro hi
    cases hq : listed.getD i false with
    | true => rfl
    | false =>
      exfalso
      have hm : i ∈ Region.ready md ops listed := by
        rw [ready_iff]
        refine ⟨hi, ?_, ?_⟩
        · rw [Array.getD_eq_getD_getElem?] at hq ⊢
          have hi' : i < listed.size := by omega
          rw [Array.getElem?_eq_getElem hi'] at hq ⊢
          exact hq
        · unfold backM at hb
          rw [List.all_eq_true] at hb
          have h1 := hb i (List.mem_range.2 hi)
          rw [Array.getElem?_eq_getElem hi] at h1 ⊢
          simp only [Option.map_some, Option.getD_some] at h1 ⊢
          rw [Array.all_eq_true'] at h1 ⊢
          intro e he
          have h2 := h1 e he
          rw [Bool.or_eq_true] at h2
          rcases h2 with h2 | h2
          · rw [h2, Bool.true_or]
          · rw [ih e.on (of_decide_eq_true h2) (by have := of_decide_eq_true h2; omega), Bool.or_true]
      rw [hr] at hm
      cases hm
/-- a row of so many cells, of which more is known -/
structure RowP (n : Nat) (P : Array Value → World → Prop) (cs : Array Value) (W : World) : Prop where
  size : cs.size = n
  one : cs.all (·.oneCell') = true
  p : P cs W
/-- what a property of rows must bear -/
structure RowOk (T : TypeId) (P : Array Value → World → Prop) : Prop where
  ext : ∀ cs W W', P cs W → Ext W W' → P cs W'
  row : ∀ cs W g old c, P cs W → Blk W g T old → P cs (W.setRow g c)
structure TwoI (w0 : World) (n : Nat) (T : TypeId) (zs : Array Value) (PA PB : Array Value → World → Prop) (va vb : Value) (L : Nat → Bool) (s : Nat → Value) (W : World) : Prop where
  x : Ext w0 W
  v0 : L 0 = true → s 0 = va
  v1 : L 1 = true → ∃ cs, s 1 = .agg cs ∧ RowP n PA cs W
  v2 : L 2 = true → s 2 = vb
  v3 : L 3 = true → ∃ cs, s 3 = .agg cs ∧ RowP n PB cs W
  k6 : L 6 = true → L 4 = true
  k7 : L 7 = true → L 5 = true
  a4 : L 4 = true → L 6 = false → ∃ g, s 4 = ptr2 g ∧ w0.heap.size ≤ g ∧ Blk W g T zs
  a5 : L 5 = true → L 7 = false → ∃ g, s 5 = ptr2 g ∧ w0.heap.size ≤ g ∧ Blk W g T zs
  s6 : L 6 = true → ∃ g cs, s 4 = ptr2 g ∧ w0.heap.size ≤ g ∧ Blk W g T cs ∧ RowP n PA cs W
  s7 : L 7 = true → ∃ g cs, s 5 = ptr2 g ∧ w0.heap.size ≤ g ∧ Blk W g T cs ∧ RowP n PB cs W
  ne : L 4 = true → L 5 = true → s 4 ≠ s 5
section
variable {w0 W W' : World} {n : Nat} {T : TypeId} {zs : Array Value} {PA PB : Array Value → World → Prop} {va vb : Value} {L : Nat → Bool} {s : Nat → Value}
theorem RowP.ext {P : Array Value → World → Prop} {cs : Array Value} (h : RowP n P cs W) (o : RowOk T P) (y : Ext W W') : RowP n P cs W' := ⟨h.size, h.one, o.ext _ _ _ h.p y⟩
theorem RowP.row {P : Array Value → World → Prop} {cs c old : Array Value} {g : Nat} (h : RowP n P cs W) (o : RowOk T P) (b : Blk W g T old) : RowP n P cs (W.setRow g c) := ⟨h.size, h.one, o.row _ _ _ _ _ h.p b⟩
theorem TwoI.start (w0 : World) (n : Nat) (T : TypeId) (zs : Array Value) (PA PB : Array Value → World → Prop) (va vb : Value) (s : Nat → Value) {W : World} (x : Ext w0 W) : TwoI w0 n T zs PA PB va vb (fun _ => false) s W :=
  ⟨x, fun h => (Bool.false_ne_true h).elim, fun h => (Bool.false_ne_true h).elim, fun h => (Bool.false_ne_true h).elim, fun h => (Bool.false_ne_true h).elim, fun h => (Bool.false_ne_true h).elim, fun h => (Bool.false_ne_true h).elim, fun h => (Bool.false_ne_true h).elim, fun h => (Bool.false_ne_true h).elim, fun h => (Bool.false_ne_true h).elim, fun h => (Bool.false_ne_true h).elim, fun h => (Bool.false_ne_true h).elim⟩
theorem TwoI.ext (oA : RowOk T PA) (oB : RowOk T PB) (I : TwoI w0 n T zs PA PB va vb L s W) (y : Ext W W') : TwoI w0 n T zs PA PB va vb L s W' :=
  ⟨I.x.trans y, I.v0, fun h => (I.v1 h).elim fun cs q => ⟨cs, q.1, q.2.ext oA y⟩, I.v2, fun h => (I.v3 h).elim fun cs q => ⟨cs, q.1, q.2.ext oB y⟩, I.k6, I.k7,
   fun h h' => (I.a4 h h').elim fun g q => ⟨g, q.1, q.2.1, q.2.2.ext y⟩, fun h h' => (I.a5 h h').elim fun g q => ⟨g, q.1, q.2.1, q.2.2.ext y⟩,
   fun h => by obtain ⟨g, cs, e, hb, b, r⟩ := I.s6 h; exact ⟨g, cs, e, hb, b.ext y, r.ext oA y⟩, fun h => by obtain ⟨g, cs, e, hb, b, r⟩ := I.s7 h; exact ⟨g, cs, e, hb, b.ext y, r.ext oB y⟩, I.ne⟩
theorem TwoI.op0 (I : TwoI w0 n T zs PA PB va vb L s W) : TwoI w0 n T zs PA PB va vb (bit2 L 0) (put2 s 0 va) W :=
  ⟨I.x, fun _ => rfl, I.v1, I.v2, I.v3, I.k6, I.k7, I.a4, I.a5, I.s6, I.s7, I.ne⟩
theorem TwoI.op2 (I : TwoI w0 n T zs PA PB va vb L s W) : TwoI w0 n T zs PA PB va vb (bit2 L 2) (put2 s 2 vb) W :=
  ⟨I.x, I.v0, I.v1, fun _ => rfl, I.v3, I.k6, I.k7, I.a4, I.a5, I.s6, I.s7, I.ne⟩
theorem TwoI.op1 {cs : Array Value} (I : TwoI w0 n T zs PA PB va vb L s W) (h : RowP n PA cs W) : TwoI w0 n T zs PA PB va vb (bit2 L 1) (put2 s 1 (.agg cs)) W :=
  ⟨I.x, I.v0, fun _ => ⟨cs, rfl, h⟩, I.v2, I.v3, I.k6, I.k7, I.a4, I.a5, I.s6, I.s7, I.ne⟩
theorem TwoI.op3 {cs : Array Value} (I : TwoI w0 n T zs PA PB va vb L s W) (h : RowP n PB cs W) : TwoI w0 n T zs PA PB va vb (bit2 L 3) (put2 s 3 (.agg cs)) W :=
  ⟨I.x, I.v0, I.v1, I.v2, fun _ => ⟨cs, rfl, h⟩, I.k6, I.k7, I.a4, I.a5, I.s6, I.s7, I.ne⟩
theorem TwoI.lt5 (I : TwoI w0 n T zs PA PB va vb L s W) (h : L 5 = true) : ∃ g, s 5 = ptr2 g ∧ g < W.heap.size := by
  cases h7 : L 7 with
  | false => obtain ⟨g, e, _, b⟩ := I.a5 h h7; exact ⟨g, e, b.lt⟩
  | true => obtain ⟨g, _, e, _, b, _⟩ := I.s7 h7; exact ⟨g, e, b.lt⟩
theorem TwoI.lt4 (I : TwoI w0 n T zs PA PB va vb L s W) (h : L 4 = true) : ∃ g, s 4 = ptr2 g ∧ g < W.heap.size := by
  cases h7 : L 6 with
  | false => obtain ⟨g, e, _, b⟩ := I.a4 h h7; exact ⟨g, e, b.lt⟩
  | true => obtain ⟨g, _, e, _, b, _⟩ := I.s6 h7; exact ⟨g, e, b.lt⟩
theorem TwoI.op4 (oA : RowOk T PA) (oB : RowOk T PB) (I : TwoI w0 n T zs PA PB va vb L s W) (h4 : L 4 = false) : TwoI w0 n T zs PA PB va vb (bit2 L 4) (put2 s 4 (ptr2 W.heap.size)) (W.alloc (.cells zs T)) := by
  have h6 : L 6 = false := by cases h : L 6 with | false => rfl | true => rw [I.k6 h] at h4; cases h4
  have J := I.ext oA oB ((Ext.refl W).alloc (.cells zs T))
  exact ⟨J.x, J.v0, J.v1, J.v2, J.v3, fun _ => rfl, J.k7, fun _ _ => ⟨_, rfl, I.x.below.size, Blk.new _ _ _⟩, J.a5, fun h => absurd (show L 6 = true from h) (by rw [h6]; decide), J.s7,
    fun _ h5 => by obtain ⟨g, e, hg⟩ := I.lt5 h5; show ptr2 _ ≠ s 5; rw [e]; exact ptr2_ne (by omega)⟩
theorem TwoI.op5 (oA : RowOk T PA) (oB : RowOk T PB) (I : TwoI w0 n T zs PA PB va vb L s W) (h5 : L 5 = false) : TwoI w0 n T zs PA PB va vb (bit2 L 5) (put2 s 5 (ptr2 W.heap.size)) (W.alloc (.cells zs T)) := by
  have h7 : L 7 = false := by cases h : L 7 with | false => rfl | true => rw [I.k7 h] at h5; cases h5
  have J := I.ext oA oB ((Ext.refl W).alloc (.cells zs T))
  exact ⟨J.x, J.v0, J.v1, J.v2, J.v3, J.k6, fun _ => rfl, J.a4, fun _ _ => ⟨_, rfl, I.x.below.size, Blk.new _ _ _⟩, J.s6, fun h => absurd (show L 7 = true from h) (by rw [h7]; decide),
    fun h4 _ => by obtain ⟨g, e, hg⟩ := I.lt4 h4; show s 4 ≠ ptr2 _; rw [e]; exact ptr2_ne (by omega)⟩
theorem ext_setRow {g : Nat} {c old : Array Value} (x : Ext w0 W) (hg : w0.heap.size ≤ g) (b : Blk W g T old) : Ext w0 (W.setRow g c) :=
  Ext.of_below (Keep.below x.below (keep_setRow W g c) x.below.size (fun i hi e => by have e : i = g := e; omega))
theorem blk_setRow {g : Nat} {c old : Array Value} (b : Blk W g T old) : Blk (W.setRow g c) g T c := setRow_heap W g old c T (0, 0) b
theorem blk_setFar {g k : Nat} {c cur : Array Value} {T' : TypeId} (b : Blk W k T' cur) (h : k ≠ g) : Blk (W.setRow g c) k T' cur := (setRow_other W g k c h).trans b
theorem TwoI.op6 (oA : RowOk T PA) (oB : RowOk T PB) (I : TwoI w0 n T zs PA PB va vb L s W) (h6 : L 6 = false) (h4 : L 4 = true) {g : Nat} {cs : Array Value} (e : s 4 = ptr2 g) (hg : w0.heap.size ≤ g) (b : Blk W g T zs) (r : RowP n PA cs W) :
    TwoI w0 n T zs PA PB va vb (bit2 L 6) s (W.setRow g cs) := by
  have far : ∀ g', L 5 = true → s 5 = ptr2 g' → g' ≠ g := fun g' h5 e' q => I.ne h4 h5 (by rw [e, e', q])
  refine ⟨ext_setRow I.x hg b, I.v0, fun h => (I.v1 h).elim fun cs q => ⟨cs, q.1, q.2.row oA b⟩, I.v2, fun h => (I.v3 h).elim fun cs q => ⟨cs, q.1, q.2.row oB b⟩, fun _ => h4, I.k7, fun _ h => absurd h (by simp [bit2]),
    fun h5 h7 => ?_, fun _ => ⟨g, cs, e, hg, blk_setRow b, r.row oA b⟩, fun h7 => ?_, I.ne⟩
  · obtain ⟨g', e', hg', b'⟩ := I.a5 h5 h7
    exact ⟨g', e', hg', blk_setFar b' (far g' h5 e')⟩
  · obtain ⟨g', cs', e', hg', b', r'⟩ := I.s7 h7
    exact ⟨g', cs', e', hg', blk_setFar b' (far g' (I.k7 h7) e'), r'.row oB b⟩
theorem TwoI.op7 (oA : RowOk T PA) (oB : RowOk T PB) (I : TwoI w0 n T zs PA PB va vb L s W) (h7 : L 7 = false) (h5 : L 5 = true) {g : Nat} {cs : Array Value} (e : s 5 = ptr2 g) (hg : w0.heap.size ≤ g) (b : Blk W g T zs) (r : RowP n PB cs W) :
    TwoI w0 n T zs PA PB va vb (bit2 L 7) s (W.setRow g cs) := by
  have far : ∀ g', L 4 = true → s 4 = ptr2 g' → g' ≠ g := fun g' h4 e' q => I.ne h4 h5 (by rw [e, e', q])
  refine ⟨ext_setRow I.x hg b, I.v0, fun h => (I.v1 h).elim fun cs q => ⟨cs, q.1, q.2.row oA b⟩, I.v2, fun h => (I.v3 h).elim fun cs q => ⟨cs, q.1, q.2.row oB b⟩, I.k6, fun _ => h5,
    fun h4 h6 => ?_, fun _ h => absurd h (by simp [bit2]), fun h6 => ?_, fun _ => ⟨g, cs, e, hg, blk_setRow b, r.row oB b⟩, I.ne⟩
  · obtain ⟨g', e', hg', b'⟩ := I.a4 h4 h6
    exact ⟨g', e', hg', blk_setFar b' (far g' h4 e')⟩
  · obtain ⟨g', cs', e', hg', b', r'⟩ := I.s6 h6
    exact ⟨g', cs', e', hg', blk_setFar b' (far g' (I.k6 h6) e'), r'.row oA b⟩
/-- what holds at the end -/
theorem TwoI.done (I : TwoI w0 n T zs PA PB va vb L s W) (h : ∀ i, i < 8 → L i = true) : ∃ g g' cs cs', s 4 = ptr2 g ∧ s 5 = ptr2 g' ∧ w0.heap.size ≤ g ∧ w0.heap.size ≤ g' ∧ g ≠ g' ∧ Blk W g T cs ∧ Blk W g' T cs' ∧ RowP n PA cs W ∧ RowP n PB cs' W ∧ Ext w0 W := by
  obtain ⟨g, cs, e, hg, b, r⟩ := I.s6 (h 6 (by omega))
  obtain ⟨g', cs', e', hg', b', r'⟩ := I.s7 (h 7 (by omega))
  exact ⟨g, g', cs, cs', e, e', hg, hg', fun q => I.ne (h 4 (by omega)) (h 5 (by omega)) (by rw [e, e', q]), b, b', r, r', I.x⟩
end
end Go.Proofs.Ytadhkmplhgcgkaa.World
