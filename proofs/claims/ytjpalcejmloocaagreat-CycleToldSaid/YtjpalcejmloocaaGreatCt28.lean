/-
  Image6, as one text (a claim has at most 60 files).
-/
import Derived.Test.YtjpalcejmloocaaGreatCt08
import Derived.Deep.DeepCutAuto
import Derived.Maps.Keyed
import Derived.Laws.EntriesVeiled
namespace Go.Proofs.YtjpalcejmloocaaGreat.World
open Go.RowKit Go.Proofs.YtjpalcejmloocaaGreat.Plain
set_option linter.unusedVariables false
attribute [local go_sem ↓] Go.wp_at_zero Go.wp_at_succ

/-! ### the map of what is due -/
def dueD (l : List Int) : Nat → DataW Unit
  | 0 => .map []
  | i + 1 => (dueD l i).put (.int .i64 (l.getD i 0)) (.lit (.bool true))
theorem dueD_map (l : List Int) (i : Nat) : Go.Maps.IsMap (dueD l i) := by
  induction i with
  | zero => exact Go.Maps.isMap_empty
  | succ i ih => exact Go.Maps.IsMap.put ih _ _
theorem dueD_at (l : List Int) (x : Int) (i : Nat) (hi : i ≤ l.length) : (dueD l i).atKey (.int .i64 x) (.lit (.bool false)) = .lit (.bool ((l.take i).contains x)) := by
  induction i with
  | zero => rfl
  | succ i ih =>
    have hil : i < l.length := by omega
    have e : l.getD i 0 = l[i] := by rw [List.getD_eq_getElem?_getD, List.getElem?_eq_getElem hil]; rfl
    rw [dueD, List.take_succ_eq_append_getElem hil, e]
    by_cases hx : x = l[i]
    · subst hx
      rw [Go.Maps.atKey_put_same (dueD_map l i) (show Go.WideAt.IsKeyLit (.int .i64 l[i]) from trivial)]
      congr 2
      rw [List.contains_iff_mem.2 (List.mem_append_right _ (List.mem_singleton.2 rfl))]
    · rw [Go.Maps.atKey_put_other (by intro h; injection h with _ h; exact hx h), ih (by omega)]
      congr 2
      rw [Bool.eq_iff_iff, List.contains_iff_mem, List.contains_iff_mem, List.mem_append, List.mem_singleton]
      exact ⟨.inl, fun h => h.elim id (fun e => absurd e hx)⟩
theorem plainElem_bool_inv {P : Program} {e : TypeId} (he : P.underlying e = some .bool) {v : Value} {z : DataW Unit × List MemPlace} (h : plainElem P e v = some z) : ∃ a, v = .bool a ∧ z = (.lit (.bool a), []) := by
  unfold plainElem at h
  rw [he] at h
  cases v <;> simp at h
  subst h
  exact ⟨_, rfl, rfl⟩
/-- the map in block b holds the first i of l -/
def DueMap (w : World) (b : Nat) (l : List Int) (i : Nat) : Prop := w.ownsMap Tryz.prog 3 (plainElem Tryz.prog 4) b i (dueD l i)
theorem zeroBool (w : World) : (zeroValue 4).run Tryz.prog w = .ok (.bool false) w := by kernel_rfl
theorem wf64 {x : Int} (h : in64 x) : (Lit.int .i64 x).wf = true := WalkArith.wf_i64 h
theorem due_look {w : World} {b : Nat} {l : List Int} {i : Nat} (h : DueMap w b l i) (hi : i ≤ l.length) (x : Int) (hx : in64 x) :
    (Instr.lookup 111 (.map (some b)) (.int .i64 x) false).run Tryz.prog w = .ok (.bool ((l.take i).contains x)) w := by
  obtain ⟨v, ps, hrun, hv⟩ := World.ownsMap.lookup h (Go.Maps.int_keyed Tryz.underlying3) Tryz.underlying111 (zeroBool w) (plainElem_bool Tryz.underlying4 false) (Go.Maps.keyOf_int_mk Tryz.underlying3 (wf64 hx))
  obtain ⟨a, rfl, e⟩ := plainElem_bool_inv Tryz.underlying4 hv
  rw [Prod.mk.injEq] at e
  have e1 := e.1
  rw [dueD_at l x i hi] at e1
  have e2 : (l.take i).contains x = a := Lit.bool.inj (DataW.lit.inj e1)
  rw [e2]; exact hrun
section
variable {w : World} {x : WV} {W : PW}
def headB (W : PW) : Bool := (decide (W.R.proc = 0) || thereB W W.R.proc) && ((decide (W.R.frame = 0) || thereB W W.R.frame) && (thereL W W.R.ready && thereL W W.R.due))
set_option maxRecDepth 100000 in
set_option maxHeartbeats 8000000 in
theorem regs (h : WorldAt w x W) (hd : deadOk W) : Calls Tryz.prog 34 #[.agg (cellsW W x)] w fun e w' => e = .returned (.bool (regsB W)) ∧ Ext w w' := by
  have HH := Lib.hid h
  have HD := Lib.hid hd
  have NU := Lib.hid h.nums
  obtain ⟨vL, fs, vD, vRe, vWa, vDu, vSn⟩ := x
  obtain ⟨A1, c1, e1, l1, l1'⟩ := Row.form h.ready
  have e1 : vRe = .slice A1 W.R.ready.length c1 := e1
  subst e1
  obtain ⟨A2, c2, e2, l2, l2'⟩ := Row.form h.wait
  have e2 : vWa = .slice A2 W.R.wait.length c2 := e2
  subst e2
  obtain ⟨A3, c3, e3, l3, l3'⟩ := Row.form h.due
  have e3 : vDu = .slice A3 W.R.due.length c3 := e3
  subst e3
  obtain ⟨A4, c4, e4, l4, l4'⟩ := Row.form h.snaps
  have e4 : vSn = .slice A4 W.R.snaps.length c4 := e4
  subst e4
  clear h hd
  unfold cellsW
  have hmm := @run_makeMap Tryz.prog
  go_enter Tryz.func34, Tryz.ntmps34
  go_upto_region 3 with (fail)
  refine wp_name (fun W1 hW => ?_)
  have BN := Blk.new' hW
  have BR := (Blk.new (w.alloc _) 29 #[.int .i64 W.R.proc, .int .i64 W.R.frame, .slice A1 W.R.ready.length c1, .slice A2 W.R.wait.length c2, .slice A3 W.R.due.length c3, .string W.R.out, .string W.R.inp, .int .i64 W.R.how, .int .i64 W.R.exit, .slice A4 W.R.snaps.length c4]).alloc' hW
  have BW := ((Blk.new w 90 (cellsW W ⟨vL, fs, vD, .slice A1 W.R.ready.length c1, .slice A2 W.R.wait.length c2, .slice A3 W.R.due.length c3, .slice A4 W.R.snaps.length c4⟩)).alloc _).alloc' hW
  have X0 := (((Ext.refl w).alloc _).alloc _).alloc' hW
  simp only [World.size_alloc] at BN BR
  clear hW
  have H1 := HH.out.ext X0
  have XX := Lib.hid X0
  have R1 := Lib.hid (fun W' (e : Ext W1 W') (a : Int) => regs1 (H1.ext e) HD.out (Blk.ext BW e) a)
  have EQI : ∀ l : List Int, allTo (fun j => !!thereB W (l.getD j 0)) l.length = thereL W l := fun l => by unfold thereL; simp only [Bool.not_not]
  have RI := fun W' (e : Ext W1 W') (l : List Int) (vl : Value) (hl : IntsAt W' vl l) => containsI hl 52 (fun _ _ => by kernel_rfl) (.pointer (some ⟨w.heap.size, 0, none⟩)) (fun j => !thereB W (l.getD j 0)) (fun i hi w'' e' => regs1 ((H1.ext e).ext e') HD.out ((Blk.ext BW e).ext e') _)
  simp only [EQI] at RI
  replace RI := Lib.hid RI
  have RW := Lib.hid (fun W' (e : Ext W1 W') => containsW (Row.ext H1.wait e) 56 (fun _ _ => by kernel_rfl) (.pointer (some ⟨w.heap.size + 1 + 1, 0, none⟩)) (fun j => !(thereB W (wAt W.R.wait j).1 && thereB W (wAt W.R.wait j).2)) (fun i hi w'' e' => regs2 ((H1.ext e).ext e') HD.out ((Blk.ext BW e).ext e') ((BN.ext e).ext e') (wAt W.R.wait i)))
  have EW : Hid (allTo (fun j => !!(thereB W (wAt W.R.wait j).1 && thereB W (wAt W.R.wait j).2)) W.R.wait.length = waitB W W.R.wait) := Lib.hid (by unfold waitB; simp only [Bool.not_not])
  have RD : Hid (IntsAt W1 (.slice A1 W.R.ready.length c1) W.R.ready) := H1.ready
  have DU : Hid (IntsAt W1 (.slice A3 W.R.due.length c3) W.R.due) := H1.due
  have SN : Hid (StrsAt W1 (.slice A4 W.R.snaps.length c4) W.R.snaps) := H1.snaps
  have EH : Hid (headB W = ((decide (W.R.proc = 0) || thereB W W.R.proc) && ((decide (W.R.frame = 0) || thereB W W.R.frame) && (thereL W W.R.ready && thereL W W.R.due)))) := rfl
  have ER : Hid (regsB W = (headB W && (onceB W.R.due && (waitB W W.R.wait && (decide (W.R.ready.length ≤ 20 ∧ W.R.wait.length ≤ 20 ∧ W.R.due.length ≤ 3000 ∧ W.R.snaps.length ≤ 20 ∧ W.R.out.size ≤ 4096 ∧ W.R.inp.size ≤ 4096 ∧ 0 ≤ W.R.how ∧ W.R.how ≤ 4 ∧ 0 ≤ W.R.exit ∧ W.R.exit ≤ 255) && snapsB W.R.snaps))))) := Lib.hid (by unfold regsB headB; simp only [Bool.and_assoc])
  clear H1 EQI X0
  have BNH := Lib.hid BN
  have BRH := Lib.hid BR
  clear BN BR BW
  generalize hq : w.heap.size + 1 + 1 = nb at *
  generalize w.heap.size + 1 = rb at *
  clear hq
  go_cut [43] (fun v wx => v = .bool (!headB W) ∧ Ext W1 wx)
  case first =>
    have z0 := Ext.refl W1
    obtain ⟨r1, r2, r3⟩ := (BRH.out.ext z0).rules
    obtain ⟨s1, s2, s3⟩ := (BNH.out.ext z0).rules
    by_cases p0 : W.R.proc = 0
    · have PR : Hid (decide (W.R.proc = 0) = true) := Lib.hid (decide_eq_true p0)
      have d1 : (W.R.proc != 0) = false := by simp [p0]
      clear p0
      by_cases f0 : W.R.frame = 0
      · have FR : Hid (decide (W.R.frame = 0) = true) := Lib.hid (decide_eq_true f0)
        have d0 : (W.R.frame != 0) = false := by simp [f0]
        clear f0
        cases hr : thereL W W.R.ready with
        | false =>
          have C := RI.out _ z0 _ _ (Row.ext RD.out z0)
          rw [hr] at C
          replace C := Lib.hid C
          have HRr := Lib.hid hr
          clear hr
          go_wp2_with fail
          refine (C.out).mono ?_
          rintro e v1 ⟨rfl, y1⟩
          have z1 := z0.trans y1
          clear r1 r2 r3 s1 s2 s3
          obtain ⟨r1, r2, r3⟩ := (BRH.out.ext z1).rules
          obtain ⟨s1, s2, s3⟩ := (BNH.out.ext z1).rules
          go_wp2_with fail
          go_meet
          case rel => exact ⟨by rw [EH.out]; simp [HRr.out, PR.out, FR.out], z1⟩
        | true =>
          have C := RI.out _ z0 _ _ (Row.ext RD.out z0)
          rw [hr] at C
          replace C := Lib.hid C
          have HRr := Lib.hid hr
          clear hr
          go_wp2_with fail
          refine (C.out).mono ?_
          rintro e v2 ⟨rfl, y2⟩
          have z2 := z0.trans y2
          clear r1 r2 r3 s1 s2 s3
          obtain ⟨r1, r2, r3⟩ := (BRH.out.ext z2).rules
          obtain ⟨s1, s2, s3⟩ := (BNH.out.ext z2).rules
          have D := Lib.hid (RI.out _ z2 _ _ (Row.ext DU.out z2))
          go_wp2_with fail
          refine (D.out).mono ?_
          rintro e v3 ⟨rfl, y3⟩
          have z3 := z2.trans y3
          clear r1 r2 r3 s1 s2 s3
          obtain ⟨r1, r2, r3⟩ := (BRH.out.ext z3).rules
          obtain ⟨s1, s2, s3⟩ := (BNH.out.ext z3).rules
          go_wp2_with fail
          go_meet
          case rel => exact ⟨by rw [EH.out]; simp [HRr.out, PR.out, FR.out], z3⟩
      · have FR : Hid (decide (W.R.frame = 0) = false) := Lib.hid (decide_eq_false f0)
        have d0 : (W.R.frame != 0) = true := by simp [f0]
        clear f0
        cases hf : thereB W W.R.frame with
        | false =>
          have C := R1.out _ z0 W.R.frame
          rw [hf] at C
          replace C := Lib.hid C
          have HFr := Lib.hid hf
          clear hf
          go_wp2_with fail
          refine (C.out).mono ?_
          rintro e v4 ⟨rfl, y4⟩
          have z4 := z0.trans y4
          clear r1 r2 r3 s1 s2 s3
          obtain ⟨r1, r2, r3⟩ := (BRH.out.ext z4).rules
          obtain ⟨s1, s2, s3⟩ := (BNH.out.ext z4).rules
          go_wp2_with fail
          go_meet
          case rel => exact ⟨by rw [EH.out]; simp [FR.out, HFr.out, PR.out], z4⟩
        | true =>
          have C := R1.out _ z0 W.R.frame
          rw [hf] at C
          replace C := Lib.hid C
          have HFr := Lib.hid hf
          clear hf
          go_wp2_with fail
          refine (C.out).mono ?_
          rintro e v5 ⟨rfl, y5⟩
          have z5 := z0.trans y5
          clear r1 r2 r3 s1 s2 s3
          obtain ⟨r1, r2, r3⟩ := (BRH.out.ext z5).rules
          obtain ⟨s1, s2, s3⟩ := (BNH.out.ext z5).rules
          cases hr : thereL W W.R.ready with
          | false =>
            have C := RI.out _ z5 _ _ (Row.ext RD.out z5)
            rw [hr] at C
            replace C := Lib.hid C
            have HRr := Lib.hid hr
            clear hr
            go_wp2_with fail
            refine (C.out).mono ?_
            rintro e v6 ⟨rfl, y6⟩
            have z6 := z5.trans y6
            clear r1 r2 r3 s1 s2 s3
            obtain ⟨r1, r2, r3⟩ := (BRH.out.ext z6).rules
            obtain ⟨s1, s2, s3⟩ := (BNH.out.ext z6).rules
            go_wp2_with fail
            go_meet
            case rel => exact ⟨by rw [EH.out]; simp [HRr.out, PR.out, FR.out, HFr.out], z6⟩
          | true =>
            have C := RI.out _ z5 _ _ (Row.ext RD.out z5)
            rw [hr] at C
            replace C := Lib.hid C
            have HRr := Lib.hid hr
            clear hr
            go_wp2_with fail
            refine (C.out).mono ?_
            rintro e v7 ⟨rfl, y7⟩
            have z7 := z5.trans y7
            clear r1 r2 r3 s1 s2 s3
            obtain ⟨r1, r2, r3⟩ := (BRH.out.ext z7).rules
            obtain ⟨s1, s2, s3⟩ := (BNH.out.ext z7).rules
            have D := Lib.hid (RI.out _ z7 _ _ (Row.ext DU.out z7))
            go_wp2_with fail
            refine (D.out).mono ?_
            rintro e v8 ⟨rfl, y8⟩
            have z8 := z7.trans y8
            clear r1 r2 r3 s1 s2 s3
            obtain ⟨r1, r2, r3⟩ := (BRH.out.ext z8).rules
            obtain ⟨s1, s2, s3⟩ := (BNH.out.ext z8).rules
            go_wp2_with fail
            go_meet
            case rel => exact ⟨by rw [EH.out]; simp [HRr.out, PR.out, FR.out, HFr.out], z8⟩
    · have PR : Hid (decide (W.R.proc = 0) = false) := Lib.hid (decide_eq_false p0)
      have d1 : (W.R.proc != 0) = true := by simp [p0]
      clear p0
      cases hp : thereB W W.R.proc with
      | false =>
        have C := R1.out _ z0 W.R.proc
        rw [hp] at C
        replace C := Lib.hid C
        have HPr := Lib.hid hp
        clear hp
        go_wp2_with fail
        refine (C.out).mono ?_
        rintro e v9 ⟨rfl, y9⟩
        have z9 := z0.trans y9
        clear r1 r2 r3 s1 s2 s3
        obtain ⟨r1, r2, r3⟩ := (BRH.out.ext z9).rules
        obtain ⟨s1, s2, s3⟩ := (BNH.out.ext z9).rules
        go_wp2_with fail
        go_meet
        case rel => exact ⟨by rw [EH.out]; simp [PR.out, HPr.out], z9⟩
      | true =>
        have C := R1.out _ z0 W.R.proc
        rw [hp] at C
        replace C := Lib.hid C
        have HPr := Lib.hid hp
        clear hp
        go_wp2_with fail
        refine (C.out).mono ?_
        rintro e v10 ⟨rfl, y10⟩
        have z10 := z0.trans y10
        clear r1 r2 r3 s1 s2 s3
        obtain ⟨r1, r2, r3⟩ := (BRH.out.ext z10).rules
        obtain ⟨s1, s2, s3⟩ := (BNH.out.ext z10).rules
        by_cases f0 : W.R.frame = 0
        · have FR : Hid (decide (W.R.frame = 0) = true) := Lib.hid (decide_eq_true f0)
          have d0 : (W.R.frame != 0) = false := by simp [f0]
          clear f0
          cases hr : thereL W W.R.ready with
          | false =>
            have C := RI.out _ z10 _ _ (Row.ext RD.out z10)
            rw [hr] at C
            replace C := Lib.hid C
            have HRr := Lib.hid hr
            clear hr
            go_wp2_with fail
            refine (C.out).mono ?_
            rintro e v11 ⟨rfl, y11⟩
            have z11 := z10.trans y11
            clear r1 r2 r3 s1 s2 s3
            obtain ⟨r1, r2, r3⟩ := (BRH.out.ext z11).rules
            obtain ⟨s1, s2, s3⟩ := (BNH.out.ext z11).rules
            go_wp2_with fail
            go_meet
            case rel => exact ⟨by rw [EH.out]; simp [HRr.out, PR.out, HPr.out, FR.out], z11⟩
          | true =>
            have C := RI.out _ z10 _ _ (Row.ext RD.out z10)
            rw [hr] at C
            replace C := Lib.hid C
            have HRr := Lib.hid hr
            clear hr
            go_wp2_with fail
            refine (C.out).mono ?_
            rintro e v12 ⟨rfl, y12⟩
            have z12 := z10.trans y12
            clear r1 r2 r3 s1 s2 s3
            obtain ⟨r1, r2, r3⟩ := (BRH.out.ext z12).rules
            obtain ⟨s1, s2, s3⟩ := (BNH.out.ext z12).rules
            have D := Lib.hid (RI.out _ z12 _ _ (Row.ext DU.out z12))
            go_wp2_with fail
            refine (D.out).mono ?_
            rintro e v13 ⟨rfl, y13⟩
            have z13 := z12.trans y13
            clear r1 r2 r3 s1 s2 s3
            obtain ⟨r1, r2, r3⟩ := (BRH.out.ext z13).rules
            obtain ⟨s1, s2, s3⟩ := (BNH.out.ext z13).rules
            go_wp2_with fail
            go_meet
            case rel => exact ⟨by rw [EH.out]; simp [HRr.out, PR.out, HPr.out, FR.out], z13⟩
        · have FR : Hid (decide (W.R.frame = 0) = false) := Lib.hid (decide_eq_false f0)
          have d0 : (W.R.frame != 0) = true := by simp [f0]
          clear f0
          cases hf : thereB W W.R.frame with
          | false =>
            have C := R1.out _ z10 W.R.frame
            rw [hf] at C
            replace C := Lib.hid C
            have HFr := Lib.hid hf
            clear hf
            go_wp2_with fail
            refine (C.out).mono ?_
            rintro e v14 ⟨rfl, y14⟩
            have z14 := z10.trans y14
            clear r1 r2 r3 s1 s2 s3
            obtain ⟨r1, r2, r3⟩ := (BRH.out.ext z14).rules
            obtain ⟨s1, s2, s3⟩ := (BNH.out.ext z14).rules
            go_wp2_with fail
            go_meet
            case rel => exact ⟨by rw [EH.out]; simp [FR.out, HFr.out, PR.out, HPr.out], z14⟩
          | true =>
            have C := R1.out _ z10 W.R.frame
            rw [hf] at C
            replace C := Lib.hid C
            have HFr := Lib.hid hf
            clear hf
            go_wp2_with fail
            refine (C.out).mono ?_
            rintro e v15 ⟨rfl, y15⟩
            have z15 := z10.trans y15
            clear r1 r2 r3 s1 s2 s3
            obtain ⟨r1, r2, r3⟩ := (BRH.out.ext z15).rules
            obtain ⟨s1, s2, s3⟩ := (BNH.out.ext z15).rules
            cases hr : thereL W W.R.ready with
            | false =>
              have C := RI.out _ z15 _ _ (Row.ext RD.out z15)
              rw [hr] at C
              replace C := Lib.hid C
              have HRr := Lib.hid hr
              clear hr
              go_wp2_with fail
              refine (C.out).mono ?_
              rintro e v16 ⟨rfl, y16⟩
              have z16 := z15.trans y16
              clear r1 r2 r3 s1 s2 s3
              obtain ⟨r1, r2, r3⟩ := (BRH.out.ext z16).rules
              obtain ⟨s1, s2, s3⟩ := (BNH.out.ext z16).rules
              go_wp2_with fail
              go_meet
              case rel => exact ⟨by rw [EH.out]; simp [HRr.out, PR.out, HPr.out, FR.out, HFr.out], z16⟩
            | true =>
              have C := RI.out _ z15 _ _ (Row.ext RD.out z15)
              rw [hr] at C
              replace C := Lib.hid C
              have HRr := Lib.hid hr
              clear hr
              go_wp2_with fail
              refine (C.out).mono ?_
              rintro e v17 ⟨rfl, y17⟩
              have z17 := z15.trans y17
              clear r1 r2 r3 s1 s2 s3
              obtain ⟨r1, r2, r3⟩ := (BRH.out.ext z17).rules
              obtain ⟨s1, s2, s3⟩ := (BNH.out.ext z17).rules
              have D := Lib.hid (RI.out _ z17 _ _ (Row.ext DU.out z17))
              go_wp2_with fail
              refine (D.out).mono ?_
              rintro e v18 ⟨rfl, y18⟩
              have z18 := z17.trans y18
              clear r1 r2 r3 s1 s2 s3
              obtain ⟨r1, r2, r3⟩ := (BRH.out.ext z18).rules
              obtain ⟨s1, s2, s3⟩ := (BNH.out.ext z18).rules
              go_wp2_with fail
              go_meet
              case rel => exact ⟨by rw [EH.out]; simp [HRr.out, PR.out, HPr.out, FR.out, HFr.out], z18⟩
  case rest =>
    obtain ⟨rfl, xc⟩ := hcut
    have HRDY := Lib.hid (NU.out.due)
    have XC := Lib.hid xc
    obtain ⟨r1, r2, r3⟩ := (BRH.out.ext xc).rules
    have hb0 := xc.below.size
    clear R1 RI RD EH HD HH xc
    cases hh : headB W with
    | false =>
      have E2 : Hid (regsB W = false) := Lib.hid (by rw [ER.out, hh]; rfl)
      clear hh
      go_wp2
      go_ret
      exact ⟨ret_bool (by rw [E2.out]), XX.out.trans XC.out⟩
    | true =>
      have E1 : Hid (regsB W = (onceB W.R.due && (waitB W W.R.wait && (decide (W.R.ready.length ≤ 20 ∧ W.R.wait.length ≤ 20 ∧ W.R.due.length ≤ 3000 ∧ W.R.snaps.length ≤ 20 ∧ W.R.out.size ≤ 4096 ∧ W.R.inp.size ≤ 4096 ∧ 0 ≤ W.R.how ∧ W.R.how ≤ 4 ∧ 0 ≤ W.R.exit ∧ W.R.exit ≤ 255) && snapsB W.R.snaps)))) := Lib.hid (by rw [ER.out, hh]; rfl)
      clear hh ER
      go_wp2_with fail
      have DM : Hid (DueMap (wc.alloc (.map #[] 0)) wc.heap.size W.R.due 0) := Lib.hid (World.ownsMap_made _ _ _ _)
      have XM := Lib.hid (XC.out.alloc (.map #[] 0))
      have DL : Hid (∀ i (hi : i < W.R.due.length), in64 (W.R.due.getD i 0)) := Lib.hid (fun i hi => HRDY.out _ (by rw [List.getD_eq_getElem?_getD, List.getElem?_eq_getElem hi]; exact List.getElem_mem hi))
      have OF := Lib.hid (allTo_false (fun j => !(W.R.due.take j).contains (W.R.due.getD j 0)) W.R.due.length)
      have OS := Lib.hid (allTo_succ (fun j => !(W.R.due.take j).contains (W.R.due.getD j 0)))
      have OE : Hid (onceB W.R.due = allTo (fun j => !(W.R.due.take j).contains (W.R.due.getD j 0)) W.R.due.length) := rfl
      have DC := Lib.hid (fun i (hi : i < W.R.due.length) => Row.at_ (show Row W1 (.slice A3 W.R.due.length c3) W.R.due.length 1 _ from DU.out) i hi)
      have DLK := Lib.hid (fun W' i (h : DueMap W' wc.heap.size W.R.due i) (hi : i < W.R.due.length) => due_look h (Nat.le_of_lt hi) (W.R.due.getD i 0) (DL.out i hi))
      have hld := l3
      clear r1 r2 r3 HRDY
      generalize hnd : W.R.due.length = nd at *
      generalize hmb : wc.heap.size = mb at *
      generalize wc.alloc (.map #[] 0) = wm at *
      clear hmb
      go_loopw [48] (fun iv wr => ∃ i : Nat, i ≤ nd ∧ iv = .int .i64 i ∧ allTo (fun j => !(W.R.due.take j).contains (W.R.due.getD j 0)) i = true ∧ DueMap wr mb W.R.due i ∧ Ext W1 wr) (fun iv _ => nd - (intOf iv).toNat)
      case atStart => exact ⟨0, Nat.zero_le _, rfl, rfl, DM.out, XM.out⟩
      case round =>
        obtain ⟨i, hi, rfl, ha, hm, xr⟩ := hrel
        have HA := Lib.hid ha
        have HM := Lib.hid hm
        have XR := Lib.hid xr
        clear ha hm
        by_cases hlt : i < nd
        · obtain ⟨b, off, rfl, hb, hc⟩ := DC.out i hlt
          have c0 : wr.cell? ⟨b, off + i * 1, none⟩ = some (.int .i64 (W.R.due.getD i 0)) := (xr.below.cell (p := ⟨b, off + i * 1, none⟩) hb).trans (hc 0 (by omega))
          rw [Nat.mul_one] at c0
          have LK := DLK.out wr i HM.out hlt
          have iI : (i : Int) < (nd : Int) := by omega
          have wf := DL.out i hlt
          unfold in64 at wf
          have PUTE : Hid (dueD W.R.due (i + 1) = (dueD W.R.due i).put (.int .i64 (W.R.due.getD i 0)) (.lit (.bool true))) := rfl
          have OFi := OF.out i hlt
          have OSi := OS.out i HA.out
          have KEY := Lib.hid (Go.Maps.keyOf_int_mk (P := Tryz.prog) Tryz.underlying3 (wf64 (DL.out i hlt)))
          clear hc
          generalize W.R.due.getD i 0 = y at *
          cases hcn : (W.R.due.take i).contains y with
          | true =>
            rw [hcn] at LK
            have E2 : Hid (regsB W = false) := Lib.hid (by rw [E1.out, OE.out, OFi (by rw [hcn]; rfl), Bool.false_and])
            clear OFi OSi hcn
            go_wp2
            go_ret
            exact ⟨ret_bool (by rw [E2.out]), XX.out.trans XR.out⟩
          | false =>
            rw [hcn] at LK
            have AN := Lib.hid (OSi (by rw [hcn]; rfl))
            clear OFi OSi hcn
            go_wp2_with (at_mapUpdate; refine wpList_mapUpdate_own _ rfl _ _ _ 111 rfl 3 4 (Go.Maps.int_keyed Tryz.underlying3) Tryz.underlying111 _ mb i (dueD W.R.due i) rfl HM.out ?q1 _ _ (.int .i64 y) rfl rfl KEY.out (.lit (.bool true)) [] (plainElem_bool Tryz.underlying4 true) ?_)
            case q1 => unfold maxLen; omega
            intro w2 hm2 hg2
            have X2 : Hid (Ext W1 w2) := Lib.hid (Ext.of_below (xr.below.trans ⟨hg2.os, hg2.tape, hg2.output, hg2.size, fun k hk => hg2.block k (by have := xr.below.size; omega) (by intro e; injection e with e; omega)⟩))
            have HM2 : Hid (DueMap w2 mb W.R.due (i + 1)) := Lib.hid (by unfold DueMap; rw [PUTE.out]; exact hm2)
            clear hm2 hg2 LK
            go_wp2_with fail
            go_roundw
            case rel => exact ⟨i + 1, by omega, by go_num, AN.out, HM2.out, X2.out⟩
            case measure => simp [intOf]; omega
        · obtain rfl : i = nd := by omega
          have E2 : Hid (regsB W = (waitB W W.R.wait && (decide (W.R.ready.length ≤ 20 ∧ W.R.wait.length ≤ 20 ∧ i ≤ 3000 ∧ W.R.snaps.length ≤ 20 ∧ W.R.out.size ≤ 4096 ∧ W.R.inp.size ≤ 4096 ∧ 0 ≤ W.R.how ∧ W.R.how ≤ 4 ∧ 0 ≤ W.R.exit ∧ W.R.exit ≤ 255) && snapsB W.R.snaps))) := Lib.hid (by rw [E1.out, OE.out, HA.out, Bool.true_and])
          have NO := NU.out.out
          have NI := NU.out.inp
          have NH := NU.out.how
          have NE := NU.out.exit
          unfold maxLen at NO NI
          unfold in64 at NH NE
          obtain ⟨r1, r2, r3⟩ := (BRH.out.ext xr).rules
          have CW := RW.out _ xr
          rw [EW.out] at CW
          replace CW := Lib.hid CW
          clear xr RW EW OF OS OE DC DLK DL HM
          cases hw : waitB W W.R.wait with
          | false =>
            rw [hw] at CW
            have E3 : Hid (regsB W = false) := Lib.hid (by rw [E2.out, hw, Bool.false_and])
            clear hw
            go_wp2_with fail
            refine CW.out.mono ?_
            rintro e w5 ⟨rfl, x5⟩
            go_wp2_with fail
            go_ret
            exact ⟨ret_bool (by rw [E3.out]), (XX.out.trans XR.out).trans x5⟩
          | true =>
            rw [hw] at CW
            have E3 : Hid (regsB W = (decide (W.R.ready.length ≤ 20 ∧ W.R.wait.length ≤ 20 ∧ i ≤ 3000 ∧ W.R.snaps.length ≤ 20 ∧ W.R.out.size ≤ 4096 ∧ W.R.inp.size ≤ 4096 ∧ 0 ≤ W.R.how ∧ W.R.how ≤ 4 ∧ 0 ≤ W.R.exit ∧ W.R.exit ≤ 255) && snapsB W.R.snaps)) := Lib.hid (by rw [E2.out, hw, Bool.true_and])
            clear hw E2 E1
            go_wp2_with fail
            refine CW.out.mono ?_
            rintro e w5 ⟨rfl, x5⟩
            have x6 := XR.out.trans x5
            have X6 := Lib.hid x6
            clear r1 r2 r3
            obtain ⟨r1, r2, r3⟩ := (BRH.out.ext x6).rules
            have SS := Lib.hid (containsS (Row.ext SN.out x6) 58 (fun _ _ => by kernel_rfl) (fun j => !decide ((sAt W.R.snaps j).size ≤ 65536)) (fun i hi w'' e' => by
              have := regs3 (sAt W.R.snaps i) (NU.out.snaps _ (by unfold sAt; rw [List.getD_eq_getElem?_getD, List.getElem?_eq_getElem hi]; exact List.getElem_mem hi)) (w := w'')
              exact this))
            have ES : Hid (allTo (fun j => !!decide ((sAt W.R.snaps j).size ≤ 65536)) W.R.snaps.length = snapsB W.R.snaps) := Lib.hid (by unfold snapsB; simp only [Bool.not_not])
            clear x5 x6 CW
            generalize W.R.ready.length = n1 at *
            generalize W.R.wait.length = n2 at *
            generalize hn4 : W.R.snaps.length = n4 at *
            generalize W.R.how = n7 at *
            generalize W.R.exit = n8 at *
            by_cases hlim : n1 ≤ 20 ∧ n2 ≤ 20 ∧ i ≤ 3000 ∧ n4 ≤ 20 ∧ W.R.out.size ≤ 4096 ∧ W.R.inp.size ≤ 4096 ∧ 0 ≤ n7 ∧ n7 ≤ 4 ∧ 0 ≤ n8 ∧ n8 ≤ 255
            · have E4 : Hid (regsB W = snapsB W.R.snaps) := Lib.hid (by rw [E3.out, decide_eq_true hlim, Bool.true_and])
              obtain ⟨q1, q2, q3, q4, q5, q6, q7, q8, q9, q10⟩ := hlim
              clear E3 hn4 hnd
              go_wp2_with fail
              refine SS.out.mono ?_
              rintro e w7 ⟨rfl, x7⟩
              rw [ES.out]
              go_wp2_with fail
              go_ret
              exact ⟨ret_bool (by rw [E4.out]), (XX.out.trans X6.out).trans x7⟩
            · have E4 : Hid (regsB W = false) := Lib.hid (by rw [E3.out, decide_eq_false hlim, Bool.false_and])
              have HL := Lib.hid hlim
              clear E3 hn4 hnd hlim
              go_wp2_with fail
              all_goals first
                | (go_ret; exact ⟨ret_bool (by rw [E4.out]), XX.out.trans X6.out⟩)
                | exact absurd (by refine ⟨?_, ?_, ?_, ?_, ?_, ?_, ?_, ?_, ?_, ?_⟩ <;> omega) HL.out
end
end Go.Proofs.YtjpalcejmloocaaGreat.World
