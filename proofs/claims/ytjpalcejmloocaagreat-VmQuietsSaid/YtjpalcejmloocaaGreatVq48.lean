/-
  RefPlaces, RefUnlike, as one text (a claim has at most 60 files).
-/
import Derived.Test.YtjpalcejmloocaaGreatVq47
import Derived.Test.YtjpalcejmloocaaGreatVq27
namespace Go.Proofs.YtjpalcejmloocaaGreat.World
open Go.RowKit Go.Proofs.YtjpalcejmloocaaGreat.Plain
set_option linter.unusedVariables false
attribute [local go_sem ↓] Go.wp_at_zero Go.wp_at_succ
section
variable {w : World} {x : WV} {W : PW}
set_option maxRecDepth 100000 in
set_option maxHeartbeats 4000000 in
theorem rplaces (h : WorldAt w x W) {v : Value} {l : List Int} (hl : IntsAt w v l) (most : Int) : Calls Tryz.prog 107 #[.agg (cellsW W x), v, .int .i64 most] w fun e w' => e = .returned (.bool (thereL W l && decide ((l.length : Int) ≤ most))) ∧ Ext w w' := by
  have CL := Lib.hid (fun W2 (y : Ext w W2) (a : Int) => rlive (h.ext y) a)
  have AF := Lib.hid (allTo_false (fun j => thereB W (l.getD j 0)) l.length)
  have AS := Lib.hid (allTo_succ (fun j => thereB W (l.getD j 0)))
  have ET : Hid (∀ j, thereB W j = (!decide (j = 0) && liveB W j)) := Lib.hid (fun _ => rfl)
  have E : Hid (thereL W l = allTo (fun j => thereB W (l.getD j 0)) l.length) := rfl
  obtain ⟨vL, fs, vD, vRe, vWa, vDu, vSn⟩ := x
  obtain ⟨A, cp, e1, l1, l2⟩ := Row.form hl
  have e1 : v = .slice A l.length cp := e1
  subst e1
  have HI : Hid (∀ j, j < l.length → ∃ b off, A = some ⟨b, off, none⟩ ∧ b < w.heap.size ∧ w.cell? ⟨b, off + j, none⟩ = some (.int .i64 (l.getD j 0))) := Lib.hid (fun j hj => by
    obtain ⟨b, off, e, hb, hc⟩ := Row.at_ hl j hj
    have c := hc 0 (by omega)
    exact ⟨b, off, e, hb, by simpa using c⟩)
  unfold cellsW at CL ⊢
  clear h hl
  generalize hn : l.length = n at *
  clear hn
  go_enter Tryz.func107, Tryz.ntmps107
  go_wp2_with fail
  refine wp_name (fun W0 hW => ?_)
  have BW := Blk.new' hW
  have X0 := (Ext.refl w).alloc' hW
  clear hW
  have BB := Lib.hid BW
  have XX := Lib.hid X0
  clear BW X0
  go_loopw [7] (fun iv wr => ∃ i : Nat, i ≤ n ∧ iv = .int .i64 i ∧ allTo (fun j => thereB W (l.getD j 0)) i = true ∧ Ext W0 wr) (fun iv _ => n - (intOf iv).toNat)
  case atStart => exact ⟨0, Nat.zero_le _, rfl, rfl, Ext.refl _⟩
  case round =>
    obtain ⟨i, hi, rfl, ha, xr⟩ := hrel
    have HA := Lib.hid ha
    have X := Lib.hid xr
    have XA := Lib.hid (XX.out.trans xr)
    have B3 := Lib.hid (BB.out.ext xr)
    obtain ⟨r1, r2, r3⟩ := B3.out.rules
    clear ha xr
    by_cases hlt : i < n
    · obtain ⟨b, off, rfl, hb, c0⟩ := HI.out i hlt
      replace c0 := (XA.out.below.cell (p := ⟨b, off + i, none⟩) hb).trans c0
      have hbr := Nat.lt_of_lt_of_le hb XA.out.below.size
      have iN : (i : Int) < (n : Int) := by omega
      have BAD : Hid (thereB W (l.getD i 0) = false → thereL W l = false) := Lib.hid (fun hf => by rw [E.out]; exact AF.out i hlt hf)
      have YES : Hid (thereB W (l.getD i 0) = true → allTo (fun j => thereB W (l.getD j 0)) (i + 1) = true) := Lib.hid (fun hf => AS.out i HA.out hf)
      have EI := Lib.hid (ET.out (l.getD i 0))
      generalize l.getD i 0 = a at *
      have CI := Lib.hid (fun W2 (y : Ext wr W2) => CL.out W2 (XA.out.trans y) a)
      generalize hla : liveB W a = la at *
      clear hla hb
      by_cases h0 : a = 0
      · subst h0
        have BD := Lib.hid (BAD.out (by rw [EI.out]; rfl))
        clear BAD YES EI
        go_wp2_with fail
        refine wp_region_ext (by kernel_rfl) (by kernel_rfl) ?_
        repeat (go_big_quiet_step (fail))
        refine wpQuiet_nil ?_
        rintro W3 ⟨xx, rfl⟩
        go_wp2_with fail
        go_ret
        exact ⟨ret_bool (by rw [BD.out]; rfl), XA.out.trans (is_ext _ _)⟩
      · have k0 : (a == 0) = false := beq_eq_false_iff_ne.2 h0
        cases la with
        | false =>
          have BD := Lib.hid (BAD.out (by rw [EI.out, Bool.and_false]))
          clear BAD YES EI h0
          go_wp2_with fail
          refine wp_region_ext (by kernel_rfl) (by kernel_rfl) ?_
          repeat (go_big_quiet_step ((first | (go_at_call 104; exact calls_ext (CI.out _ ⟨_, rfl⟩)))))
          refine wpQuiet_nil ?_
          rintro W3 ⟨xx, rfl⟩
          go_wp2_with fail
          go_ret
          exact ⟨ret_bool (by rw [BD.out]; rfl), XA.out.trans (is_ext _ _)⟩
        | true =>
          have AN := Lib.hid (YES.out (by rw [EI.out, decide_eq_false h0]; rfl))
          clear BAD YES EI h0
          go_wp2_with fail
          refine wp_region_ext (by kernel_rfl) (by kernel_rfl) ?_
          repeat (go_big_quiet_step ((first | (go_at_call 104; exact calls_ext (CI.out _ ⟨_, rfl⟩)))))
          refine wpQuiet_nil ?_
          rintro W3 ⟨xx, rfl⟩
          go_wp2_with fail
          go_roundw
          case rel => exact ⟨i + 1, by omega, by go_num, AN.out, X.out.trans (is_ext _ _)⟩
          case measure => simp [intOf]; omega
    · obtain rfl : i = n := by omega
      go_wp2_with fail
      go_ret
      exact ⟨ret_bool (by rw [E.out, HA.out, Bool.true_and]), XA.out⟩
end
end Go.Proofs.YtjpalcejmloocaaGreat.World
namespace Go.Proofs.YtjpalcejmloocaaGreat.World
open Go.RowKit Go.Proofs.YtjpalcejmloocaaGreat.Plain
set_option linter.unusedVariables false
attribute [local go_sem ↓] Go.wp_at_zero Go.wp_at_succ
def unlB (n : Nat) (l : List Int) (j : Nat) : Bool := decide (0 ≤ l.getD j 0 ∧ l.getD j 0 < n) && !(l.take j).contains (l.getD j 0)
def seenU (n : Nat) (l : List Int) (i : Nat) : List Bool := (List.range n).map (fun k : Nat => (l.take i).contains (Int.ofNat k))
theorem seenU_len (n : Nat) (l : List Int) (i : Nat) : (seenU n l i).length = n := by unfold seenU; simp
theorem seenU_0 (n : Nat) (l : List Int) : seenU n l 0 = List.replicate n false := by
  unfold seenU
  apply List.ext_getElem?
  intro q
  rw [List.getElem?_map, List.getElem?_replicate]
  by_cases h : q < n
  · rw [List.getElem?_range h, if_pos h]; rfl
  · rw [List.getElem?_eq_none (by simpa using h), if_neg h]; rfl
theorem seenU_at (n : Nat) (l : List Int) (i k : Nat) (hk : k < n) : (seenU n l i)[k]? = some ((l.take i).contains (k : Int)) := by
  unfold seenU
  rw [List.getElem?_map, List.getElem?_range hk]; rfl
theorem seenU_set (n : Nat) (l : List Int) (i k : Nat) (hi : i < l.length) (hk : l.getD i 0 = (k : Int)) : (seenU n l i).set k true = seenU n l (i + 1) := by
  have e : l.take (i + 1) = l.take i ++ [(k : Int)] := by
    rw [List.take_succ_eq_append_getElem hi]
    rw [List.getD_eq_getElem?_getD, List.getElem?_eq_getElem hi] at hk
    rw [show l[i] = (k : Int) from hk]
  apply List.ext_getElem?
  intro q
  rw [List.getElem?_set, seenU_len]
  by_cases h : q < n
  · rw [seenU_at n l (i + 1) q h, seenU_at n l i q h, e]
    by_cases hq : k = q
    · subst hq
      rw [if_pos rfl, if_pos h]
      simp
    · rw [if_neg hq]
      congr 1
      have : ¬ ((q : Int) = (k : Int)) := fun c => hq (by omega)
      rw [Bool.eq_iff_iff]
      simp only [List.contains_iff_mem, List.mem_append, List.mem_singleton, this, or_false]
  · have n1 : (seenU n l (i + 1))[q]? = none := List.getElem?_eq_none (by rw [seenU_len]; omega)
    have n0 : (seenU n l i)[q]? = none := List.getElem?_eq_none (by rw [seenU_len]; omega)
    rw [n1, n0]
    by_cases hq : k = q
    · subst hq; rw [if_pos rfl, if_neg h]
    · rw [if_neg hq]
section
variable {w : World} {x : WV} {W : PW}
set_option maxRecDepth 100000 in
set_option maxHeartbeats 4000000 in
theorem runlike (h : WorldAt w x W) (hn0 : W.L.length ≤ 1000000) {v : Value} {l : List Int} (hl : IntsAt w v l) : Calls Tryz.prog 108 #[.agg (cellsW W x), v] w fun e w' => e = .returned (.bool (allTo (unlB W.L.length l) l.length)) ∧ Ext w w' := by
  have AF := Lib.hid (allTo_false (unlB W.L.length l) l.length)
  have AS := Lib.hid (allTo_succ (unlB W.L.length l))
  have EU : Hid (∀ j, unlB W.L.length l j = (decide (0 ≤ l.getD j 0 ∧ l.getD j 0 < W.L.length) && !(l.take j).contains (l.getD j 0))) := Lib.hid (fun _ => rfl)
  obtain ⟨vL, fs, vD, vRe, vWa, vDu, vSn⟩ := x
  obtain ⟨A, cp, e1, l1, l2⟩ := Row.form hl
  have e1 : v = .slice A l.length cp := e1
  subst e1
  obtain ⟨AL, cL, e1, l3, l4⟩ := h.L.row.form
  have e1 : vL = .slice AL W.L.length cL := e1
  subst e1
  have HI : Hid (∀ j, j < l.length → ∃ b off, A = some ⟨b, off, none⟩ ∧ b < w.heap.size ∧ w.cell? ⟨b, off + j, none⟩ = some (.int .i64 (l.getD j 0))) := Lib.hid (fun j hj => by
    obtain ⟨b, off, e, hb, hc⟩ := Row.at_ hl j hj
    have c := hc 0 (by omega)
    exact ⟨b, off, e, hb, by simpa using c⟩)
  unfold cellsW
  clear h hl
  have MK := make_bool W.L.length (by omega)
  generalize hnl : W.L.length = n at *
  clear hnl
  have SL := Lib.hid (fun i (hi : i < l.length) k hk => seenU_set n l i k hi hk)
  generalize hm : l.length = m at *
  clear hm
  go_enter Tryz.func108, Tryz.ntmps108
  go_upto_region 2 with (fail)
  refine wp_name (fun W0 hW => ?_)
  have b0 : Blk W0 w.heap.size _ _ := (Blk.new w _ _).alloc' hW
  have bS := Blk.new' hW
  simp only [World.size_alloc] at bS
  have X0 := ((Ext.refl w).alloc _).alloc' hW
  clear hW MK
  have bS' : Blk W0 (w.heap.size + 1) 4 ((seenU n l 0).map Value.bool).toArray := by rw [seenU_0]; simpa using bS
  have B0 := Lib.hid b0
  have BS := Lib.hid bS'
  have XX := Lib.hid X0
  clear b0 bS bS' X0
  generalize hq : w.heap.size = q at *
  go_wp2_with fail
  go_loopw [6] (fun iv wr => ∃ i : Nat, i ≤ m ∧ iv = .int .i64 i ∧ allTo (unlB n l) i = true ∧ Ext w wr ∧ Blk wr q 31 #[.slice AL n cL, vD, .int .i64 W.last, .int .i64 W.R.proc, .int .i64 W.R.frame, vRe, vWa, vDu, .string W.R.out, .string W.R.inp, .int .i64 W.R.how, .int .i64 W.R.exit, vSn] ∧ Blk wr (q + 1) 4 ((seenU n l i).map Value.bool).toArray) (fun iv _ => m - (intOf iv).toNat)
  case atStart => exact ⟨0, Nat.zero_le _, rfl, rfl, XX.out, B0.out, BS.out⟩
  case round =>
    obtain ⟨i, hi, rfl, ha, xr, br, bs⟩ := hrel
    have HA := Lib.hid ha
    have X := Lib.hid xr
    have BR := Lib.hid br
    have BT := Lib.hid bs
    obtain ⟨r1, r2, r3⟩ := br.rules
    obtain ⟨s1, s2, s3⟩ := bs.rules
    clear ha xr br bs
    by_cases hlt : i < m
    · obtain ⟨b, off, rfl, hb, c0⟩ := HI.out i hlt
      replace c0 := (X.out.below.cell (p := ⟨b, off + i, none⟩) (by rw [hq]; exact hb)).trans c0
      have hbr := Nat.lt_of_lt_of_le hb (by have := X.out.below.size; rw [hq] at this; exact this)
      have iN : (i : Int) < (m : Int) := by omega
      have BAD : Hid (unlB n l i = false → allTo (unlB n l) m = false) := Lib.hid (fun hf => AF.out i hlt hf)
      have YES : Hid (unlB n l i = true → allTo (unlB n l) (i + 1) = true) := Lib.hid (fun hf => AS.out i HA.out hf)
      have EI := Lib.hid (EU.out i)
      have SI := Lib.hid (SL.out i hlt)
      generalize l.getD i 0 = a at *
      have hne : b ≠ q + 1 := by omega
      by_cases h0 : 0 ≤ a
      · by_cases h1 : a < (n : Int)
        · obtain ⟨k, rfl⟩ := Int.eq_ofNat_of_zero_le h0
          have hk : k < n := by omega
          have ck : wr.cell? ⟨q + 1, k, none⟩ = some (.bool ((l.take i).contains (k : Int))) := by
            rw [BT.out.cell, List.getElem?_toArray, List.getElem?_map, seenU_at _ _ _ _ hk]; rfl
          rw [decide_eq_true ⟨h0, h1⟩, Bool.true_and] at EI
          clear s1
          generalize (l.take i).contains (k : Int) = sn at *
          cases sn with
          | true =>
            have BD := Lib.hid (BAD.out (by rw [EI.out]; rfl))
            clear BAD YES EI
            go_wp2_with fail
            go_ret
            exact ⟨ret_bool BD.out.symm, X.out.trans (is_ext _ _)⟩
          | false =>
            have AN := Lib.hid (YES.out (by rw [EI.out]; rfl))
            clear BAD YES EI
            go_wp2_with fail
            have P := And.intro (X.out.setNew (p := ⟨q + 1, k, none⟩) (by rw [hq]; show q ≤ q + 1; omega) (.bool true)) (And.intro (BR.out.far (p := ⟨q + 1, k, none⟩) (by show q ≠ q + 1; omega) (.bool true)) (by have z := BT.out.set k (.bool true); rw [arr_set, SI.out k rfl] at z; exact z))
            have PH := Lib.hid P
            clear P
            go_roundw
            case rel => exact ⟨i + 1, by omega, by go_num, AN.out, PH.out.1, PH.out.2.1, PH.out.2.2⟩
            case measure => simp [intOf]; omega
        · have BD := Lib.hid (BAD.out (by rw [EI.out, decide_eq_false (fun c => h1 c.2)]; rfl))
          have h1' : (n : Int) ≤ a := by omega
          clear BAD YES EI h1
          go_wp2_with fail
          go_ret
          exact ⟨ret_bool BD.out.symm, X.out.trans (is_ext _ _)⟩
      · have BD := Lib.hid (BAD.out (by rw [EI.out, decide_eq_false (fun c => h0 c.1)]; rfl))
        have h0' : a < 0 := by omega
        clear BAD YES EI h0
        go_wp2_with fail
        go_ret
        exact ⟨ret_bool BD.out.symm, X.out.trans (is_ext _ _)⟩
    · obtain rfl : i = m := by omega
      go_wp2_with fail
      go_ret
      exact ⟨ret_bool HA.out.symm, X.out⟩
end
end Go.Proofs.YtjpalcejmloocaaGreat.World
