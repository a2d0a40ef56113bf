/-
  Image4, as one text (a claim has at most 60 files).
-/
import Derived.Test.YtjpalcejmloocaaGreatCt06
namespace Go.Proofs.YtjpalcejmloocaaGreat.World
open Go.RowKit Go.Proofs.YtjpalcejmloocaaGreat.Plain
set_option linter.unusedVariables false
attribute [local go_sem ↓] Go.wp_at_zero Go.wp_at_succ

theorem prevH_succ (L : List PT) (i : Nat) : prevH L (i + 1) = (tAt L i).hash := rfl
theorem prevH_in (W : PW) (hN : Nums W) (i : Nat) (hi : i ≤ W.L.length) : in64 (prevH W.L i) := by
  cases i with
  | zero => exact ⟨by show (-9223372036854775808 : Int) ≤ 0; omega, by show (0 : Int) ≤ 9223372036854775807; omega⟩
  | succ i => rw [prevH_succ]; exact (hN.things _ (tAt_mem (by omega))).2.2.1
section
variable {w : World} {x : WV} {W : PW}
set_option maxRecDepth 100000 in
set_option maxHeartbeats 4000000 in
theorem things (h : WorldAt w x W) (hd : deadOk W) (hn0 : W.L.length ≤ 1000000) : Calls Tryz.prog 32 #[.agg (cellsW W x)] w fun e w' => e = .returned (.bool (thingsB W)) ∧ Ext w w' := by
  have HH := Lib.hid h
  have HT := Lib.hid (fun w' (e : Ext w w') => thing (h.ext e) hd)
  have E : Hid (thingsB W = (allTo (oneB W) W.L.length && (decide (prevH W.L W.L.length ≤ W.last) && decide (W.last ≤ 3000)))) := rfl
  have AF := Lib.hid (allTo_false (oneB W) W.L.length)
  have AS := Lib.hid (allTo_succ (oneB W))
  have EO : Hid (∀ i, oneB W i = (decide (prevH W.L i < (tAt W.L i).hash) && (decide ((tAt W.L i).hash ≤ 3000) && thingB W i))) := Lib.hid (fun _ => rfl)
  have HP := Lib.hid (prevH_in W h.nums)
  have HN := Lib.hid (fun i (hi : i < W.L.length) => h.nums.things _ (tAt_mem hi))
  have hlast := h.nums.last
  unfold in64 at hlast
  obtain ⟨vL, fs, vD, vRe, vWa, vDu, vSn⟩ := x
  obtain ⟨AL, cL, e1, l1, l2⟩ := h.L.row.form
  have e1 : vL = .slice AL W.L.length cL := e1
  subst e1
  have HC := Lib.hid (fun (j : Nat) (hj : j < W.L.length) => h.L.cells rfl j hj)
  have HF := Lib.hid (fun (j : Nat) (hj : j < W.L.length) => Row.form (h.L.flds j hj))
  unfold cellsW at HT ⊢
  have P0 : Hid (prevH W.L 0 = 0) := rfl
  have PS := Lib.hid (prevH_succ W.L)
  clear h hd
  generalize hn : W.L.length = n at *
  generalize prevH W.L = ph at *
  clear hn
  go_enter Tryz.func32, Tryz.ntmps32
  go_wp2_with fail
  refine wp_name (fun W0 hW => ?_)
  have BW := Blk.new' hW
  have X0 := (Ext.refl w).alloc' hW
  clear hW
  have BB := Lib.hid BW
  have XX := Lib.hid X0
  clear BW X0
  go_loopw [3, 10] (fun hv iv wr => ∃ i : Nat, i ≤ n ∧ iv = .int .i64 i ∧ hv = .int .i64 (ph i) ∧ allTo (oneB W) i = true ∧ Ext W0 wr) (fun _ iv _ => n - (intOf iv).toNat)
  case atStart => exact ⟨0, Nat.zero_le _, rfl, by rw [P0.out], rfl, Ext.refl _⟩
  case round =>
    obtain ⟨i, hi, rfl, rfl, ha, xr⟩ := hrel
    have HA := Lib.hid ha
    have X := Lib.hid xr
    have XA := Lib.hid (XX.out.trans xr)
    have hpi := HP.out i hi
    unfold in64 at hpi
    obtain ⟨r1, r2, r3⟩ := (BB.out.ext xr).rules
    clear ha xr
    by_cases hlt : i < n
    · obtain ⟨b, off, rfl, hb, d0, d1, d2, d3, d4, d5⟩ := HC.out i hlt
      replace d4 : w.cell? ⟨b, off + i * 6 + 4, none⟩ = some (fs i) := d4
      obtain ⟨AF', cF, ef, f1, f2⟩ := HF.out i hlt
      replace ef : fs i = .slice AF' (tAt W.L i).F.length cF := ef
      rw [ef] at d4
      replace d0 := (XA.out.below.cell (p := ⟨b, off + i * 6, none⟩) hb).trans d0
      replace d1 := (XA.out.below.cell (p := ⟨b, off + i * 6 + 1, none⟩) hb).trans d1
      replace d2 := (XA.out.below.cell (p := ⟨b, off + i * 6 + 2, none⟩) hb).trans d2
      replace d3 := (XA.out.below.cell (p := ⟨b, off + i * 6 + 3, none⟩) hb).trans d3
      replace d4 := (XA.out.below.cell (p := ⟨b, off + i * 6 + 4, none⟩) hb).trans d4
      replace d5 := (XA.out.below.cell (p := ⟨b, off + i * 6 + 5, none⟩) hb).trans d5
      have hnum := (HN.out i hlt).2.2.1
      unfold in64 at hnum
      have ET := EO.out i
      have iI : (i : Int) < (n : Int) := by omega
      have TH := fun w' (e : Ext w w') => HT.out w' e i hlt
      have PSi := Lib.hid (PS.out i)
      generalize thingB W i = tb at *
      generalize tAt W.L i = t at *
      clear ef
      have BAD : oneB W i = false → Hid (thingsB W = false) := fun hf => Lib.hid (by rw [E.out, AF.out i hlt hf, Bool.false_and])
      by_cases h1 : ph i < t.hash
      · rw [decide_eq_true h1, Bool.true_and] at ET
        by_cases h2 : t.hash ≤ 3000
        · rw [decide_eq_true h2, Bool.true_and] at ET
          cases tb with
          | true =>
            have AN := Lib.hid (AS.out i HA.out ET)
            replace TH := Lib.hid TH
            clear BAD ET
            go_wp2_with fail
            refine calls_name (fun W1 hW => ?_)
            have BT := Blk.new' hW
            have X1 := XA.out.alloc' hW
            have Y1 := X.out.alloc' hW
            clear hW
            refine (TH.out _ X1).mono ?_
            rintro e w2 ⟨rfl, x2⟩
            obtain ⟨s1, s2, s3⟩ := (BT.ext x2).rules
            have Y2 := Lib.hid (Y1.trans x2)
            clear x2 X1 Y1 BT r1 r2 r3
            go_wp2_with fail
            go_roundw
            case rel => exact ⟨i + 1, by omega, by go_num, by rw [PSi.out], AN.out, Y2.out⟩
            case measure => simp [intOf]; omega
          | false =>
            have BD := BAD ET
            replace TH := Lib.hid TH
            clear BAD ET
            go_wp2_with fail
            refine (TH.out _ (XA.out.alloc _)).mono ?_
            rintro e w2 ⟨rfl, x2⟩
            go_wp2_with fail
            go_ret
            exact ⟨ret_bool (by rw [BD.out]), (XA.out.alloc _).trans x2⟩
        · rw [decide_eq_false h2, Bool.false_and] at ET
          have BD := BAD ET
          clear BAD ET TH
          go_wp2
          go_ret
          exact ⟨ret_bool (by rw [BD.out]), XA.out.alloc _⟩
      · rw [decide_eq_false h1, Bool.false_and] at ET
        have BD := BAD ET
        clear BAD ET TH
        go_wp2
        go_ret
        exact ⟨ret_bool (by rw [BD.out]), XA.out.alloc _⟩
    · obtain rfl : i = n := by omega
      have hii : decide ((i : Int) < (i : Int)) = false := by simp
      have hii' : decide (i < i) = false := by simp
      go_wp2
      all_goals
        go_ret
        refine ⟨ret_bool ?_, XA.out⟩
        rw [E.out, HA.out]
        simp [*] <;> omega
theorem row_pre {v : Value} {n m sz cap : Nat} {A : Option Addr} {c : Nat → Nat → Value} (h : Row w (.slice A n cap) n sz c) (hm : m ≤ n) : Row w (.slice A m cap) m sz c := by
  obtain ⟨A', cap', e, h1, h2, h3⟩ := h.ex
  injection e with e1 e2 e3
  subst e1; subst e3
  exact ⟨_, _, rfl, by omega, h2, fun i hi => h3 i (by omega)⟩
set_option maxRecDepth 100000 in
set_option maxHeartbeats 4000000 in
theorem specials (h : WorldAt w x W) (hn23 : 23 ≤ W.L.length) : Calls Tryz.prog 33 #[.agg (cellsW W x)] w fun e w' => e = .returned (.bool (specB W)) ∧ Ext w w' := by
  have HH := Lib.hid h
  have E : Hid (specB W = allTo (spec1B W) 23) := rfl
  have AF := Lib.hid (allTo_false (spec1B W) 23)
  have AS := Lib.hid (allTo_succ (spec1B W))
  have EO : Hid (∀ i, spec1B W i = (if i ≤ 2 then decide ((tAt W.L i).cls = 3 + i) else if i ≤ 18 then decide ((tAt W.L i).cls = 10) else if i < 22 then decide ((tAt W.L i).fmt = 3) else decide ((tAt W.L i).fmt = 1))) := Lib.hid (fun _ => rfl)
  have HN := Lib.hid (fun i (hi : i < W.L.length) => h.nums.things _ (tAt_mem hi))
  obtain ⟨vL, fs, vD, vRe, vWa, vDu, vSn⟩ := x
  obtain ⟨AL, cL, e1, l1, l2⟩ := h.L.row.form
  have e1 : vL = .slice AL W.L.length cL := e1
  subst e1
  have HC := Lib.hid (fun (j : Nat) (hj : j < W.L.length) => h.L.cells rfl j hj)
  have HF := Lib.hid (fun (j : Nat) (hj : j < W.L.length) => Row.form (h.L.flds j hj))
  unfold cellsW
  have n23 : (23 : Int) ≤ (cL : Int) := by omega
  clear h
  generalize hn : W.L.length = n at *
  clear hn
  go_enter Tryz.func33, Tryz.ntmps33
  go_wp2_with fail
  refine wp_name (fun W0 hW => ?_)
  have X0 := (Ext.refl w).alloc' hW
  clear hW
  have XX := Lib.hid X0
  clear X0
  go_loopw [11] (fun iv wr => ∃ i : Nat, i ≤ 23 ∧ iv = .int .i64 i ∧ allTo (spec1B W) i = true ∧ Ext W0 wr) (fun iv _ => 23 - (intOf iv).toNat)
  case atStart => exact ⟨0, Nat.zero_le _, rfl, rfl, Ext.refl _⟩
  case round =>
    obtain ⟨i, hi, rfl, ha, xr⟩ := hrel
    have HA := Lib.hid ha
    have X := Lib.hid xr
    have XA := Lib.hid (XX.out.trans xr)
    clear ha xr
    by_cases hlt : i < 23
    · obtain ⟨b, off, rfl, hb, d0, d1, d2, d3, d4, d5⟩ := HC.out i (by omega)
      replace d4 : w.cell? ⟨b, off + i * 6 + 4, none⟩ = some (fs i) := d4
      obtain ⟨AF', cF, ef, f1, f2⟩ := HF.out i (by omega)
      replace ef : fs i = .slice AF' (tAt W.L i).F.length cF := ef
      rw [ef] at d4
      replace d0 := (XA.out.below.cell (p := ⟨b, off + i * 6, none⟩) hb).trans d0
      replace d1 := (XA.out.below.cell (p := ⟨b, off + i * 6 + 1, none⟩) hb).trans d1
      replace d2 := (XA.out.below.cell (p := ⟨b, off + i * 6 + 2, none⟩) hb).trans d2
      replace d3 := (XA.out.below.cell (p := ⟨b, off + i * 6 + 3, none⟩) hb).trans d3
      replace d4 := (XA.out.below.cell (p := ⟨b, off + i * 6 + 4, none⟩) hb).trans d4
      replace d5 := (XA.out.below.cell (p := ⟨b, off + i * 6 + 5, none⟩) hb).trans d5
      have iI : (i : Int) < 23 := by omega
      have ES := Lib.hid (EO.out i)
      generalize tAt W.L i = t at *
      clear ef
      have BAD : spec1B W i = false → Hid (specB W = false) := fun hf => Lib.hid (by rw [E.out, AF.out i hlt hf])
      have kind : i ≤ 2 ∨ (2 < i ∧ i ≤ 18) ∨ (18 < i ∧ i < 22) ∨ 22 ≤ i := by omega
      rcases kind with h2 | h2 | h2 | h2
      · have e1 : spec1B W i = (t.cls == 3 + (i : Int)) := by
          rw [ES.out, if_pos h2]; rfl
        cases hq : (t.cls == 3 + (i : Int)) with
        | true =>
          have AN := Lib.hid (AS.out i HA.out (by rw [e1, hq]))
          clear BAD e1
          go_wp2
          go_roundw
          case rel => exact ⟨i + 1, by omega, by go_num, AN.out, X.out.alloc _⟩
          case measure => simp [intOf]; omega
        | false =>
          have BD := BAD (by rw [e1, hq])
          clear BAD e1
          go_wp2
          go_ret
          exact ⟨ret_bool (by rw [BD.out]), XA.out.alloc _⟩
      · have e1 : spec1B W i = (t.cls == 10) := by
          rw [ES.out, if_neg (by omega), if_pos h2.2]; rfl
        cases hq : (t.cls == 10) with
        | true =>
          have AN := Lib.hid (AS.out i HA.out (by rw [e1, hq]))
          clear BAD e1
          go_wp2
          go_roundw
          case rel => exact ⟨i + 1, by omega, by go_num, AN.out, X.out.alloc _⟩
          case measure => simp [intOf]; omega
        | false =>
          have BD := BAD (by rw [e1, hq])
          clear BAD e1
          go_wp2
          go_ret
          exact ⟨ret_bool (by rw [BD.out]), XA.out.alloc _⟩
      · have e1 : spec1B W i = (t.fmt == 3) := by
          rw [ES.out, if_neg (by omega), if_neg (by omega), if_pos h2.2]; rfl
        cases hq : (t.fmt == 3) with
        | true =>
          have AN := Lib.hid (AS.out i HA.out (by rw [e1, hq]))
          clear BAD e1
          go_wp2
          go_roundw
          case rel => exact ⟨i + 1, by omega, by go_num, AN.out, X.out.alloc _⟩
          case measure => simp [intOf]; omega
        | false =>
          have BD := BAD (by rw [e1, hq])
          clear BAD e1
          go_wp2
          go_ret
          exact ⟨ret_bool (by rw [BD.out]), XA.out.alloc _⟩
      · have e1 : spec1B W i = (t.fmt == 1) := by
          rw [ES.out, if_neg (by omega), if_neg (by omega), if_neg (by omega)]; rfl
        cases hq : (t.fmt == 1) with
        | true =>
          have AN := Lib.hid (AS.out i HA.out (by rw [e1, hq]))
          clear BAD e1
          go_wp2
          go_roundw
          case rel => exact ⟨i + 1, by omega, by go_num, AN.out, X.out.alloc _⟩
          case measure => simp [intOf]; omega
        | false =>
          have BD := BAD (by rw [e1, hq])
          clear BAD e1
          go_wp2
          go_ret
          exact ⟨ret_bool (by rw [BD.out]), XA.out.alloc _⟩
    · obtain rfl : i = 23 := by omega
      go_wp2
      go_ret
      exact ⟨ret_bool (by rw [E.out, HA.out]), XA.out⟩
end
end Go.Proofs.YtjpalcejmloocaaGreat.World
