/-
  Cyc4, as one text (a claim has at most 60 files).
-/
import Derived.Test.YtjpalcejmloocaaGreatCt25
namespace Go.Proofs.YtjpalcejmloocaaGreat.World
open Go.RowKit Go.Proofs.YtjpalcejmloocaaGreat.Plain
set_option linter.unusedVariables false
attribute [local go_sem ↓] Go.wp_at_zero Go.wp_at_succ
def MS.watchOK (S : MS) (i : Int) : Bool := S.has i && !decide (0 ≤ i ∧ i < 23)
def MS.watch (S : MS) (i : Int) : MS := if S.watchOK i then S.setFin i true else S
section
variable {w w' w2 : World} {F F' F2 : Nat → Prop} {m : Nat} {S S' : MS} {X : MX}
set_option maxRecDepth 100000 in
set_option maxHeartbeats 1000000 in
theorem mwatch (h : M w F m S) (i : Int) : Calls Tryz.prog 10 #[.pointer (some ⟨m, 0, none⟩), .int .i64 i] w fun e w' => e = .returned (.bool (S.watchOK i)) ∧ M w' F m (S.watch i) ∧ Keep F w w' := by
  obtain ⟨bt, R⟩ := h.rd
  obtain ⟨bt', sb, C⟩ := h.cl
  obtain rfl := R.one C
  have c0 := C.c0
  have lt := C.lt
  have C1 := Lib.hid (fun W [IsExt w W] => R.has W i)
  have C2 := Lib.hid (fun W [x : IsExt w W] => misfirst (h.ext x.out) i)
  have HI : Hid (S.has i = true → 0 ≤ i ∧ i < S.L.length) := Lib.hid MS.has_lt
  have C3 := Lib.hid (fun W [IsExt w W] => C.setFin W i true)
  have E : Hid (S.watchOK i = (S.has i && !decide (0 ≤ i ∧ i < 23))) := Lib.hid rfl
  have E2 : Hid (S.watch i = if S.watchOK i then S.setFin i true else S) := Lib.hid rfl
  have HH := Lib.hid h
  clear R C h
  generalize S.watchOK i = ok at *
  generalize hd : decide (0 ≤ i ∧ i < 23) = d at *
  clear hd
  cases ha : S.has i with
  | false =>
    rw [ha, Bool.false_and] at E
    rw [E.out, if_neg (by decide)] at E2
    rw [ha] at C1
    clear ha C2 C3 HI
    go_enter Tryz.func10, Tryz.ntmps10
    go_wp2_with (first | (go_at_call 174; refine (C1.out _).mono ?_; rintro e w2 ⟨rfl, x2⟩; obtain ⟨y, rfl⟩ := x2))
    go_ret
    exact ⟨ret_bool E.out.symm, by rw [E2.out]; exact HH.out.ext (is_ext _ _), Keep.of_ext (is_ext _ _) _⟩
  | true =>
    rw [ha, Bool.true_and] at E
    obtain ⟨h0, h1⟩ := HI.out ha
    rw [ha] at C1
    replace C3 := Lib.hid (fun W [IsExt w W] => C3.out W h0 h1)
    clear ha HI h0 h1
    cases d with
    | true =>
      rw [E.out, if_neg (by decide)] at E2
      clear C3
      go_enter Tryz.func10, Tryz.ntmps10
      go_wp2_with (first | (go_at_call 174; refine (C1.out _).mono ?_; rintro e w2 ⟨rfl, x2⟩; obtain ⟨y, rfl⟩ := x2) | (go_at_call 23; refine (C2.out _).mono ?_; rintro e w2 ⟨rfl, x2⟩; obtain ⟨y, rfl⟩ := x2))
      go_ret
      exact ⟨ret_bool E.out.symm, by rw [E2.out]; exact HH.out.ext (is_ext _ _), Keep.of_ext (is_ext _ _) _⟩
    | false =>
      rw [E.out, if_pos (by decide)] at E2
      go_enter Tryz.func10, Tryz.ntmps10
      go_wp2_with (first | (go_at_call 174; refine (C1.out _).mono ?_; rintro e w2 ⟨rfl, x2⟩; obtain ⟨y, rfl⟩ := x2) | (go_at_call 23; refine (C2.out _).mono ?_; rintro e w2 ⟨rfl, x2⟩; obtain ⟨y, rfl⟩ := x2))
      refine calls_name (fun W hW => ?_)
      have hx : IsExt w W := ⟨by rw [hW]; exact is_ext _ _⟩
      clear hW
      refine (C3.out W).mono ?_
      rintro e w2 ⟨rfl, m2, k2⟩
      have M2 := Lib.hid m2
      have K2 := Lib.hid ((Keep.of_ext hx.out F).trans k2)
      clear c0 lt hx m2 k2 C1 C2 C3 HH
      go_wp2_with fail
      go_ret
      exact ⟨ret_bool E.out.symm, by rw [E2.out]; exact M2.out, K2.out⟩
theorem take_next {l : List Int} {k : Nat} (h : k < l.length) : l.take (k + 1) = l.take k ++ [l.getD k 0] := by
  rw [List.take_succ_eq_append_getElem h, List.getD_eq_getElem?_getD, List.getElem?_eq_getElem h]; rfl
set_option maxRecDepth 100000 in
set_option maxHeartbeats 2000000 in
theorem mroots (h : M w F m S) (hs : S.smallB = true) : Calls Tryz.prog 66 #[.pointer (some ⟨m, 0, none⟩)] w fun e w' => e = .returned (.tuple #[]) ∧ M w' F m S.roots ∧ Keep F w w' := by
  have C1 := Lib.hid (fun W bt k => @tspecial W k (.pointer (some ⟨bt, 0, none⟩)))
  have C2 := Lib.hid (fun W S (x : M W F m S) i => mshade x i)
  have HS := Lib.hid (of_decide_eq_true hs)
  have HM := Lib.hid h
  have HF := Lib.hid h.lt
  clear h hs
  go_enter Tryz.func66, Tryz.ntmps66
  go_wp2_with fail
  go_loopw [5] (fun iv wr => ∃ k : Nat, k ≤ 23 ∧ iv = .int .i64 k ∧ M wr F m (S.shades (upTo k)) ∧ Keep F w wr) (fun iv _ => 23 - (intOf iv).toNat)
  case atStart => exact ⟨0, by omega, rfl, HM.out, Keep.refl _ _⟩
  case round =>
    clear HM
    obtain ⟨k, hk, rfl, hm, hkp⟩ := hrel
    have KP := Lib.hid hkp
    have HM := Lib.hid hm
    clear hkp
    by_cases hlt : k < 23
    · have kI : (k : Int) < 23 := by omega
      obtain ⟨bt, R⟩ := hm.rd
      have c0 := R.c0
      have lt := R.lt
      clear R hm
      go_wp2_with (first | (go_at_call 185; refine (C1.out _ _ _).mono ?_; rintro e w2 ⟨rfl, x2⟩; obtain ⟨y, rfl⟩ := x2))
      refine calls_name (fun W hW => ?_)
      have hx : IsExt wr W := ⟨by rw [hW]; exact is_ext _ _⟩
      clear hW
      refine (C2.out W _ (HM.out.ext hx.out) k).mono ?_
      rintro e w2 ⟨rfl, m2, k2⟩
      have M2 := Lib.hid m2
      have K2 := Lib.hid (KP.out.trans ((Keep.of_ext hx.out F).trans k2))
      clear c0 lt hx m2 k2 HM KP
      go_wp2_with fail
      go_roundw
      case rel => exact ⟨k + 1, by omega, by go_num, by rw [upTo_succ, MS.shades_snoc]; exact M2.out, K2.out⟩
      case measure => simp [intOf] <;> omega
    · obtain rfl : k = 23 := by omega
      rw [show ((23 : Nat) : Int) = 23 from rfl]
      have AL := Lib.hid (MS.alike_shades (upTo 23) S)
      have ES : Hid (S.roots = (S.shades (upTo 23)).shades (listOf S.R)) := Lib.hid rfl
      generalize S.shades (upTo 23) = S1 at *
      obtain ⟨X, hX⟩ := hm
      have eR : S1.R = S.R := AL.out.R
      obtain ⟨q1, q2, q3⟩ := hX.bm.rules
      have RN := hX.R
      rw [eR] at RN
      have R1 := RN.re.row
      have R2 := RN.wa.row
      have R3 := RN.du.row
      obtain ⟨A1, k1, e1⟩ := RN.re.form
      obtain ⟨A2, k2, e2⟩ := RN.wa.form
      obtain ⟨A3, k3, e3⟩ := RN.du.form
      obtain ⟨A4, k4, e4⟩ := RN.sn.form
      unfold cellsM at q1
      rw [eR, e1, e2, e3, e4] at q1
      rw [e1] at R1
      rw [e2] at R2
      rw [e3] at R3
      have CL := Lib.hid (fun W (x : Ext wr W) => list_ (sn := .slice A4 S.R.snaps.length k4) (R := S.R) (Row.ext R1 x) (Row.ext R2 x) (Row.ext R3 x) (by have := HS.out; omega))
      unfold cellsR at CL
      clear RN R1 R2 R3 e1 e2 e3 e4 eR hX
      go_wp2_with fail
      refine (CL.out _ (is_ext _ _)).mono ?_
      rintro e w2 ⟨v, rfl, o, x2⟩
      obtain ⟨A, c, ev⟩ := o.own.form
      subst ev
      have O := Lib.hid o
      have M2 := Lib.hid (HM.out.ext x2)
      have K2 := Lib.hid (KP.out.ext x2)
      have HL := Lib.hid HM.out.lt
      have NF : Hid (∀ j, (Value.slice A (listOf S.R).length c).ownBlock = some j → ¬ F j) := Lib.hid (fun j hj hf => by
        have h1 := (o.own.block hj).1
        have h2 := HL.out j hf
        omega)
      have TK : Hid (∀ k, k < (listOf S.R).length → (listOf S.R).take (k + 1) = (listOf S.R).take k ++ [(listOf S.R).getD k 0]) := Lib.hid (fun k h => take_next h)
      have TA : Hid ((listOf S.R).take (listOf S.R).length = listOf S.R) := Lib.hid (List.take_length ..)
      have RW : Hid (Row w2 (.slice A (listOf S.R).length c) (listOf S.R).length 1 (fun i _ => .int .i64 ((listOf S.R).getD i 0))) := Lib.hid o.own.row
      clear q1 q2 q3 o x2 HM KP CL O HL
      generalize listOf S.R = l at *
      generalize hnl : l.length = n at *
      have HNL := Lib.hid hnl
      clear hnl
      have nB : n ≤ 9223372036854775807 := by
        obtain ⟨_, _, _, l1, l2⟩ := Row.form RW.out
        omega
      go_wp2_with fail
      rename World => wo
      go_loopw [23] (fun iv wq => ∃ k : Nat, k ≤ n ∧ iv = .int .i64 k ∧ M wq F m (S1.shades (l.take k)) ∧ Keep F wo wq) (fun iv _ => n - (intOf iv).toNat)
      case atStart => exact ⟨0, by omega, rfl, M2.out, Keep.refl _ _⟩
      case round =>
        obtain ⟨k, hk2, rfl, hm, hkp⟩ := hrel
        have KQ := Lib.hid hkp
        have HM := Lib.hid hm
        clear hkp hm
        by_cases hlt2 : k < n
        · have kI : (k : Int) < (n : Int) := by omega
          obtain ⟨b, off, rfl, hb, hc⟩ := Row.at_ (Row.far RW.out KQ.out NF.out) k hlt2
          have d0 : wr.cell? ⟨b, off + k, none⟩ = some (.int .i64 (l.getD k 0)) := by have := hc 0 (by omega); rw [Nat.mul_one] at this; exact this
          have T := Lib.hid (TK.out k hlt2)
          clear hc
          generalize l.getD k 0 = z at *
          go_wp2_with fail
          refine calls_name (fun W hW => ?_)
          have hx : IsExt wr W := ⟨by rw [hW]; exact is_ext _ _⟩
          clear hW
          refine (C2.out W _ (HM.out.ext hx.out) z).mono ?_
          rintro e w4 ⟨rfl, m2, k2⟩
          have M4 := Lib.hid m2
          have K4 := Lib.hid (KQ.out.trans ((Keep.of_ext hx.out F).trans k2))
          clear d0 hb hx m2 k2 HM KQ
          go_wp2_with fail
          go_roundw
          case rel => exact ⟨k + 1, by omega, by go_num, by rw [T.out, MS.shades_snoc]; exact M4.out, K4.out⟩
          case measure => simp [intOf] <;> omega
        · obtain rfl : k = n := by omega
          go_wp2_with fail
          go_end0
          have q := HM.out
          rw [TA.out] at q
          exact ⟨rfl, by rw [ES.out]; exact q, K2.out.trans KQ.out⟩
set_option maxRecDepth 100000 in
set_option maxHeartbeats 2000000 in
theorem mscan (h : M w F m S) (i : Int) (hi : S.has i = true) : Calls Tryz.prog 60 #[.pointer (some ⟨m, 0, none⟩), .int .i64 i] w fun e w' => e = .returned (.tuple #[]) ∧ M w' F m (S.scan i) ∧ Keep F w w' := by
  have CS := Lib.hid (fun W S (x : M W F m S) i => mshade x i)
  obtain ⟨h0, h1⟩ := MS.has_lt hi
  have ES : Hid (S.scan i = ((S.shade (S.cls i)).scan1 i).paint i 2) := Lib.hid rfl
  have AL := Lib.hid (MS.alike_shade S (S.cls i))
  have HM := Lib.hid h
  have HI := Lib.hid hi
  obtain ⟨bt, sb, C⟩ := h.cl
  have c0 := C.c0
  have lt := C.lt
  have C1 := Lib.hid (fun W [IsExt w W] => C.class_ W i)
  clear C h hi
  -- the end of it, from any world in which its fields have been looked at
  have EN : Hid (∀ (w5 : World) (S5 : MS), M w5 F m S5 → MS.Alike S S5 → ∃ bt, w5.cell? ⟨m, 0, none⟩ = some (.iface 70 (.pointer (some ⟨bt, 0, none⟩))) ∧ m < w5.heap.size ∧ ∀ W [IsExt w5 W], Calls Tryz.prog 179 #[.pointer (some ⟨bt, 0, none⟩), .int .i64 i, .int .i64 2] W fun e w' => e = .returned (.tuple #[]) ∧ M w' F m (S5.paint i 2) ∧ Keep F W w') := Lib.hid (fun w5 S5 h5 a5 => by
    obtain ⟨bt5, sb5, C5⟩ := h5.cl
    exact ⟨bt5, C5.c0, C5.lt, fun W x => C5.paint W i 2 h0 (by rw [a5.L]; exact h1)⟩)
  generalize S.cls i = cl at *
  go_enter Tryz.func60, Tryz.ntmps60
  go_wp2_with (first | (go_at_call 169; refine (C1.out _).mono ?_; rintro e w2 ⟨rfl, x2⟩; obtain ⟨y, rfl⟩ := x2))
  refine calls_name (fun W hW => ?_)
  have hx : IsExt w W := ⟨by rw [hW]; exact is_ext _ _⟩
  clear hW
  refine (CS.out W _ (HM.out.ext hx.out) cl).mono ?_
  rintro e w2 ⟨rfl, m2, k2⟩
  have K2 := Lib.hid ((Keep.of_ext hx.out F).trans k2)
  have M2 := Lib.hid m2
  clear c0 lt hx k2 HM C1 h0 h1
  generalize S.shade cl = S1 at *
  obtain ⟨bt2, R⟩ := m2.rd
  have c0 := R.c0
  have lt := R.lt
  have C1 := Lib.hid (fun W [IsExt w2 W] => R.fmt W i)
  have C2 := Lib.hid (fun W [IsExt w2 W] => R.size W i)
  have hf1 : S1.has i = true := by rw [AL.out.has]; exact HI.out
  have F1 := Lib.hid hf1
  have wf1 := m2.wf
  have E1 : Hid (S1.scan1 i = if S1.fmt i = 1 then S1.scanN i (S1.size i).toNat else S1) := Lib.hid rfl
  have SZ : Hid (0 ≤ S1.size i ∧ S1.size i ≤ 300) := Lib.hid (by
    obtain ⟨g0, g1⟩ := MS.has_lt hf1
    unfold MS.size
    rw [if_pos hf1]
    have a := wf1.nF i.toNat (by omega)
    have b := wf1.nB i.toNat (by omega)
    unfold MS.t
    omega)
  clear R m2 hf1 wf1
  by_cases hf : S1.fmt i = 1
  · have FM := Lib.hid hf
    rw [if_pos hf] at E1
    rw [hf] at C1
    clear hf
    generalize hsz : S1.size i = sz at *
    obtain ⟨n, rfl⟩ := Int.eq_ofNat_of_zero_le SZ.out.1
    have HSZ := Lib.hid hsz
    rw [Int.toNat_natCast] at E1
    have nB : n ≤ 300 := by have := SZ.out.2; omega
    clear hsz
    go_wp2_with (first | (go_at_call 173; refine (C1.out _).mono ?_; rintro e w2 ⟨rfl, x2⟩; obtain ⟨y, rfl⟩ := x2) | (go_at_call 184; refine (C2.out _).mono ?_; rintro e w2 ⟨rfl, x2⟩; obtain ⟨y, rfl⟩ := x2))
    clear c0 lt C1 C2
    rename World => wo
    go_loopw [27] (fun iv wq => ∃ k : Nat, k ≤ n ∧ iv = .int .i64 k ∧ M wq F m (S1.scanN i k) ∧ Keep F wo wq) (fun iv _ => n - (intOf iv).toNat)
    case atStart => exact ⟨0, by omega, rfl, M2.out.ext (is_ext _ _), Keep.of_ext (is_ext _ _) _⟩
    case round =>
      obtain ⟨k, hk2, rfl, hm, hkp⟩ := hrel
      have KQ := Lib.hid hkp
      have HM := Lib.hid hm
      clear hkp
      have A2 := Lib.hid (MS.alike_scanN S1 i k)
      by_cases hlt2 : k < n
      · have kI : (k : Int) < (n : Int) := by omega
        obtain ⟨bt3, R⟩ := hm.rd
        have c0 := R.c0
        have lt := R.lt
        have C1 := Lib.hid (fun W [IsExt wr W] => R.field W i k (by rw [A2.out.has]; exact F1.out) (by omega) (by rw [A2.out.size, HSZ.out]; exact kI) (by rw [A2.out.fmt, FM.out]; decide))
        rw [A2.out.field] at C1
        have T : Hid (S1.scanN i (k + 1) = if (S1.field i k).obj then (S1.scanN i k).shade (S1.field i k).n else S1.scanN i k) := Lib.hid rfl
        clear hm R
        unfold val at C1
        generalize S1.field i k = v at *
        obtain ⟨vo, vn⟩ := v
        cases vo with
        | false =>
          rw [if_neg (show ¬ (false = true) by decide)] at T
          go_wp2_with (first | (go_at_call 171; refine (C1.out _).mono ?_; rintro e w2 ⟨rfl, x2⟩; obtain ⟨y, rfl⟩ := x2))
          go_roundw
          case rel => exact ⟨k + 1, by omega, by go_num, by rw [T.out]; exact HM.out.ext (is_ext _ _), KQ.out.ext (is_ext _ _)⟩
          case measure => simp [intOf] <;> omega
        | true =>
          rw [if_pos rfl] at T
          go_wp2_with (first | (go_at_call 171; refine (C1.out _).mono ?_; rintro e w2 ⟨rfl, x2⟩; obtain ⟨y, rfl⟩ := x2))
          refine calls_name (fun W hW => ?_)
          have hx : IsExt wr W := ⟨by rw [hW]; exact is_ext _ _⟩
          clear hW
          refine (CS.out W _ (HM.out.ext hx.out) vn).mono ?_
          rintro e w4 ⟨rfl, m2, k2⟩
          have M4 := Lib.hid m2
          have K4 := Lib.hid (KQ.out.trans ((Keep.of_ext hx.out F).trans k2))
          clear c0 lt hx m2 k2 HM KQ
          go_wp2_with fail
          go_roundw
          case rel => exact ⟨k + 1, by omega, by go_num, by rw [T.out]; exact M4.out, K4.out⟩
          case measure => simp [intOf] <;> omega
      · obtain rfl : k = n := by omega
        obtain ⟨bt3, c0, lt, P⟩ := EN.out wr _ HM.out (AL.out.trans A2.out)
        have PP := Lib.hid P
        clear hm P
        go_wp2_with fail
        refine calls_name (fun W hW => ?_)
        have hx : IsExt wr W := ⟨by rw [hW]; exact is_ext _ _⟩
        clear hW
        refine (PP.out W).mono ?_
        rintro e w4 ⟨rfl, m2, k2⟩
        have M4 := Lib.hid m2
        have K4 := Lib.hid (K2.out.trans (KQ.out.trans ((Keep.of_ext hx.out F).trans k2)))
        clear c0 lt hx m2 k2 PP
        go_wp2_with fail
        go_end0
        exact ⟨rfl, by rw [ES.out, E1.out]; exact M4.out, K4.out⟩
  · have e1 : (S1.fmt i == 1) = false := beq_eq_false_iff_ne.2 hf
    rw [if_neg hf] at E1
    clear hf SZ
    obtain ⟨bt3, c1, lt1, P⟩ := EN.out w2 _ M2.out AL.out
    obtain rfl : bt2 = bt3 := by
      have := c0.symm.trans c1
      injection this with e
      injection e with _ e
      injection e with e
      injection e with e
      injection e
    have PP := Lib.hid P
    clear c1 lt1 P
    generalize S1.fmt i = f at *
    go_wp2_with (first | (go_at_call 173; refine (C1.out _).mono ?_; rintro e w2 ⟨rfl, x2⟩; obtain ⟨y, rfl⟩ := x2))
    refine calls_name (fun W hW => ?_)
    have hx : IsExt w2 W := ⟨by rw [hW]; exact is_ext _ _⟩
    clear hW
    refine (PP.out W).mono ?_
    rintro e w4 ⟨rfl, m2, k2⟩
    have M4 := Lib.hid m2
    have K4 := Lib.hid (K2.out.trans ((Keep.of_ext hx.out F).trans k2))
    clear c0 lt hx m2 k2 PP
    go_wp2_with fail
    go_end0
    exact ⟨rfl, by rw [ES.out, E1.out]; exact M4.out, K4.out⟩
end
end Go.Proofs.YtjpalcejmloocaaGreat.World
