/-
  RefCheck, RefPlain, as one text (a claim has at most 60 files).
-/
import Derived.Test.YtjpalcejmloocaaGreatVq49
import Derived.Test.YtjpalcejmloocaaGreatVq44
namespace Go.Proofs.YtjpalcejmloocaaGreat.World
open Go.RowKit Go.Proofs.YtjpalcejmloocaaGreat.Plain
set_option linter.unusedVariables false
attribute [local go_sem ↓] Go.wp_at_zero Go.wp_at_succ
def refChk (W : PW) : Bool := decide (23 ≤ W.L.length ∧ W.L.length ≤ 3000) && (decide (W.dead.length = 0 ∨ W.dead.length = W.L.length) && (allTo (refT W) W.L.length && (allTo (rspecB W) 23 && (regR W && (decide ((tAt W.L (W.L.length - 1)).hash ≤ W.last) && decide (W.last ≤ 3000))))))
section
variable {w : World} {x : WV} {W : PW}
set_option maxRecDepth 100000 in
set_option maxHeartbeats 4000000 in
theorem rcheck (h : WorldAt w x W) : Calls Tryz.prog 46 #[.agg (cellsW W x)] w fun e w' => e = .returned (.bool (refChk W)) ∧ Ext w w' := by
  have EC : Hid (refChk W = (decide (23 ≤ W.L.length ∧ W.L.length ≤ 3000) && (decide (W.dead.length = 0 ∨ W.dead.length = W.L.length) && (allTo (refT W) W.L.length && (allTo (rspecB W) 23 && (regR W && (decide ((tAt W.L (W.L.length - 1)).hash ≤ W.last) && decide (W.last ≤ 3000)))))))) := rfl
  have HH := Lib.hid h
  have AF := Lib.hid (allTo_false (refT W) W.L.length)
  have AS := Lib.hid (allTo_succ (refT W))
  obtain ⟨vL, fs, vD, vRe, vWa, vDu, vSn⟩ := x
  obtain ⟨AL, cL, e1, l1, l1'⟩ := h.L.row.form
  have e1 : vL = .slice AL W.L.length cL := e1
  subst e1
  obtain ⟨AD, cD, e2, l2, l2'⟩ := Row.form h.dead
  have e2 : vD = .slice AD W.dead.length cD := e2
  subst e2
  have HC := Lib.hid (fun (j : Nat) (hj : j < W.L.length) => h.L.cells rfl j hj)
  have HN := Lib.hid (fun i (hi : i < W.L.length) => (h.nums.things _ (tAt_mem hi)).2.2.1)
  clear h
  unfold cellsW
  go_enter Tryz.func46, Tryz.ntmps46
  go_upto_region 2 with (fail)
  refine wp_name (fun W1 hW => ?_)
  have b1 := Blk.new' hW
  have X1 := (Ext.refl w).alloc' hW
  clear hW
  have BB := Lib.hid b1
  have XX := Lib.hid X1
  obtain ⟨r1, r2, r3⟩ := b1.rules
  clear b1 X1
  by_cases hn : 23 ≤ W.L.length ∧ W.L.length ≤ 3000
  · obtain ⟨hn1, hn2⟩ := hn
    rw [decide_eq_true ⟨hn1, hn2⟩, Bool.true_and] at EC
    have CT := Lib.hid (fun W2 (y : Ext w W2) i (hi : i < W.L.length) => rthing (HH.out.ext y) (by omega) i hi)
    have CS := Lib.hid (fun W2 (y : Ext w W2) => rspecials (HH.out.ext y) hn1)
    have CR := Lib.hid (fun W2 (y : Ext w W2) => rregs (HH.out.ext y) (by omega))
    unfold cellsW at CT CS CR
    by_cases hd : W.dead.length = 0 ∨ W.dead.length = W.L.length
    · rw [decide_eq_true hd, Bool.true_and] at EC
      have DD : Hid (∀ (P : Prop), ((((W.dead.length : Int) != 0) = false → P) ∧ (((W.dead.length : Int) != 0) = true → ((W.dead.length : Int) != (W.L.length : Int)) = false → P)) → P) := Lib.hid (fun P hP => by
        by_cases z : W.dead.length = 0
        · exact hP.1 (by rw [z]; rfl)
        · have z2 : W.dead.length = W.L.length := by omega
          exact hP.2 (by simp [z]) (by rw [z2]; simp))
      generalize hnl : W.L.length = n at *
      have HNL := Lib.hid hnl
      clear hnl
      generalize W.dead.length = m at *
      go_cut [26] from 8 to 26 (fun v wx => v = .bool false ∧ Ext W1 wx)
      case first =>
        refine DD.out _ ⟨fun z => ?_, fun z z2 => ?_⟩
        · clear hd
          go_wp2_with fail
          go_meet
          exact ⟨by first | rfl | (simp; omega), is_ext _ _⟩
        · clear hd
          go_wp2_with fail
          go_meet
          exact ⟨by first | rfl | (simp; omega), is_ext _ _⟩
      case rest =>
        obtain ⟨rfl, xc⟩ := hcut
        clear r1 r2 r3
        obtain ⟨r1, r2, r3⟩ := (BB.out.ext xc).rules
        replace BB := Lib.hid (BB.out.ext xc)
        replace XX := Lib.hid (XX.out.trans xc)
        clear xc DD
        go_wp2_with fail
        go_loopw [4] (fun iv wr => ∃ i : Nat, i ≤ n ∧ iv = .int .i64 i ∧ allTo (refT W) i = true ∧ Ext wc wr) (fun iv _ => n - (intOf iv).toNat)
        case atStart => exact ⟨0, Nat.zero_le _, rfl, rfl, Ext.refl _⟩
        case round =>
          obtain ⟨i, hi, rfl, ha, xr⟩ := hrel
          have HA := Lib.hid ha
          have X := Lib.hid xr
          have XA := Lib.hid (XX.out.trans xr)
          have B3 := Lib.hid (BB.out.ext xr)
          clear r1 r2 r3 ha xr
          obtain ⟨r1, r2, r3⟩ := B3.out.rules
          by_cases hlt : i < n
          · have iN : (i : Int) < (n : Int) := by omega
            have BAD : Hid (refT W i = false → refChk W = false) := Lib.hid (fun hf => by rw [EC.out, AF.out i hlt hf]; rfl)
            have YES : Hid (refT W i = true → allTo (refT W) (i + 1) = true) := Lib.hid (fun hf => AS.out i HA.out hf)
            have TI := Lib.hid (fun W2 (y : Ext w W2) => CT.out W2 y i hlt)
            generalize refT W i = tb at *
            cases tb with
            | true =>
              have A1 := Lib.hid (YES.out rfl)
              clear BAD YES
              go_wp2_with fail
              refine (TI.out _ (XA.out.trans (is_ext _ _))).mono ?_
              rintro e w2 ⟨rfl, x2⟩; obtain ⟨y, rfl⟩ := x2; try rw [ext_ext]
              go_wp2_with fail
              go_roundw
              case rel => exact ⟨i + 1, by omega, by go_num, A1.out, X.out.trans (is_ext _ _)⟩
              case measure => simp [intOf]; omega
            | false =>
              have A1 := Lib.hid (BAD.out rfl)
              clear BAD YES
              go_wp2_with fail
              refine (TI.out _ (XA.out.trans (is_ext _ _))).mono ?_
              rintro e w2 ⟨rfl, x2⟩; obtain ⟨y, rfl⟩ := x2; try rw [ext_ext]
              go_wp2_with fail
              go_ret
              exact ⟨ret_bool A1.out.symm, XA.out.trans (is_ext _ _)⟩
          · obtain rfl : i = n := by omega
            have E2 := Lib.hid (show refChk W = _ from by rw [EC.out, HA.out, Bool.true_and])
            obtain ⟨b, off, rfl, hb, d0, d1, d2, d3, d4, d5⟩ := HC.out (i - 1) (by omega)
            replace d2 := (XA.out.below.cell (p := ⟨b, off + (i - 1) * 6 + 2, none⟩) hb).trans d2
            have hbr := Nat.lt_of_lt_of_le hb XA.out.below.size
            have hnum := HN.out (i - 1) (by omega)
            unfold in64 at hnum
            have jw : IntKind.i64.wrap ((i : Int) - 1) = ((i - 1 : Nat) : Int) := by simp (disch := omega) only [IntWalk.i64_in]; omega
            have j1 : ((i - 1 : Nat) : Int) < (i : Int) := by omega
            have j0 : (0 : Int) ≤ ((i - 1 : Nat) : Int) := by omega
            clear d0 d1 d3 d4 d5 hb EC AF AS HC HN CT HA
            generalize (tAt W.L (i - 1)).hash = hl at *
            generalize allTo (rspecB W) 23 = p1 at *
            generalize regR W = p2 at *
            generalize hj : i - 1 = j at *
            have HJ := Lib.hid hj
            clear hj
            cases p1 with
            | false =>
              rw [Bool.false_and] at E2
              go_upto_region 9 with (fail)
              refine wp_region_ext (by kernel_rfl) (by kernel_rfl) ?_
              repeat (go_big_quiet_step ((first | (go_at_call 79; with_reducible exact calls_ext (CS.out _ (XA.out.ext _))) | (go_at_call 80; with_reducible exact calls_ext (CR.out _ (XA.out.ext _))))))
              refine wpQuiet_nil ?_
              rintro W3 ⟨xx, rfl⟩
              go_wp2_with fail
              go_ret
              exact ⟨ret_bool (by rw [E2.out]), XA.out.trans (is_ext _ _)⟩
            | true =>
              rw [Bool.true_and] at E2
              cases p2 with
              | false =>
                rw [Bool.false_and] at E2
                go_upto_region 9 with (fail)
                refine wp_region_ext (by kernel_rfl) (by kernel_rfl) ?_
                repeat (go_big_quiet_step ((first | (go_at_call 79; with_reducible exact calls_ext (CS.out _ (XA.out.ext _))) | (go_at_call 80; with_reducible exact calls_ext (CR.out _ (XA.out.ext _))))))
                refine wpQuiet_nil ?_
                rintro W3 ⟨xx, rfl⟩
                go_wp2_with fail
                go_ret
                exact ⟨ret_bool (by rw [E2.out]), XA.out.trans (is_ext _ _)⟩
              | true =>
                rw [Bool.true_and] at E2
                by_cases g1 : hl ≤ W.last
                · rw [decide_eq_true g1, Bool.true_and] at E2
                  go_upto_region 9 with (fail)
                  refine wp_region_ext (by kernel_rfl) (by kernel_rfl) ?_
                  repeat (go_big_quiet_step ((first | (go_at_call 79; with_reducible exact calls_ext (CS.out _ (XA.out.ext _))) | (go_at_call 80; with_reducible exact calls_ext (CR.out _ (XA.out.ext _))))))
                  refine wpQuiet_nil ?_
                  rintro W3 ⟨xx, rfl⟩
                  go_wp2_with fail
                  go_ret
                  exact ⟨ret_bool (by rw [E2.out]), XA.out.trans (is_ext _ _)⟩
                · rw [decide_eq_false g1, Bool.false_and] at E2
                  go_upto_region 9 with (fail)
                  refine wp_region_ext (by kernel_rfl) (by kernel_rfl) ?_
                  repeat (go_big_quiet_step ((first | (go_at_call 79; with_reducible exact calls_ext (CS.out _ (XA.out.ext _))) | (go_at_call 80; with_reducible exact calls_ext (CR.out _ (XA.out.ext _))))))
                  refine wpQuiet_nil ?_
                  rintro W3 ⟨xx, rfl⟩
                  go_wp2_with fail
                  go_ret
                  exact ⟨ret_bool (by rw [E2.out]), XA.out.trans (is_ext _ _)⟩
    · rw [decide_eq_false hd, Bool.false_and] at EC
      have z1 : ((W.dead.length : Int) != 0) = true := by
        have : W.dead.length ≠ 0 := fun c => hd (.inl c)
        simp [this]
      have z2 : ((W.dead.length : Int) != (W.L.length : Int)) = true := by
        have : W.dead.length ≠ W.L.length := fun c => hd (.inr c)
        simp; omega
      clear hd HH
      generalize W.L.length = n at *
      generalize W.dead.length = m at *
      go_wp2_with fail
      go_ret
      exact ⟨ret_bool (by rw [EC.out]), XX.out.trans (is_ext _ _)⟩
  · rw [decide_eq_false hn, Bool.false_and] at EC
    clear HH
    generalize W.L.length = n at *
    have HNN := Lib.hid hn
    clear hn
    by_cases h1 : n < 23
    · have h1' : (n : Int) < 23 := by omega
      go_wp2_with fail
      go_ret
      exact ⟨ret_bool (by rw [EC.out]), XX.out.trans (is_ext _ _)⟩
    · have h2 : 3000 < n := by have := HNN.out; omega
      have h2' : (3000 : Int) < (n : Int) := by omega
      go_wp2_with fail
      go_ret
      exact ⟨ret_bool (by rw [EC.out]), XX.out.trans (is_ext _ _)⟩
end
end Go.Proofs.YtjpalcejmloocaaGreat.World
namespace Go.Proofs.YtjpalcejmloocaaGreat.World
open Go.RowKit Go.Proofs.YtjpalcejmloocaaGreat.Plain
set_option linter.unusedVariables false
theorem val_iff (W : PW) (live : Bool) (v : PV) : valB W live v = true ↔ fldB W.L.length v = true ∧ (live = true → (!v.obj || liveB W v.n) = true) := by
  unfold valB fldB
  cases v.obj with
  | false => simp
  | true => cases live <;> simp
theorem vals_iff (W : PW) (live : Bool) (F : List PV) : valsB W live F = true ↔ fldsB W.L.length F = true ∧ (live = true → liveF W F = true) := by
  unfold valsB fldsB liveF
  rw [allTo_iff, allTo_iff, allTo_iff]
  constructor
  · intro h
    exact ⟨fun i hi => ((val_iff W live _).1 (h i hi)).1, fun hl i hi => ((val_iff W live _).1 (h i hi)).2 hl⟩
  · rintro ⟨h1, h2⟩ i hi
    exact (val_iff W live _).2 ⟨h1 i hi, fun hl => h2 hl i hi⟩
theorem fmt_iff (W : PW) (live : Bool) (t : PT) : fmtB W live t = true ↔ shapeB W.L.length t = true ∧ (live = true → liveF W t.F = true) := by
  unfold fmtB shapeB
  by_cases h1 : t.fmt = 1 ∨ t.fmt = 2
  · have h3 : ¬ t.fmt = 3 := by omega
    rw [if_pos h1, if_neg h3, if_pos h1]
    simp only [Bool.and_eq_true, vals_iff]
    constructor
    · rintro ⟨⟨a, b⟩, c, d⟩; exact ⟨⟨d, c, a⟩, b⟩
    · rintro ⟨⟨d, c, a⟩, b⟩; exact ⟨⟨a, b⟩, c, d⟩
  · rw [if_neg h1]
    by_cases h3 : t.fmt = 3
    · rw [if_pos h3, if_pos h3]
      constructor
      · intro h
        refine ⟨h, fun _ => ?_⟩
        rw [Bool.and_eq_true, decide_eq_true_eq] at h
        unfold liveF
        rw [h.1]; rfl
      · exact fun h => h.1
    · rw [if_neg h3, if_neg h3, if_neg h1]
      simp
theorem refT_iff (W : PW) (i : Nat) : refT W i = true ↔ (0 ≤ (tAt W.L i).cls ∧ (tAt W.L i).cls < W.L.length) ∧ (1 ≤ (tAt W.L i).hash ∧ (tAt W.L i).hash ≤ 3000) ∧ (i = 0 ∨ prevH W.L i < (tAt W.L i).hash) ∧ shapeB W.L.length (tAt W.L i) = true ∧
    (liveB W i = true → classB W (tAt W.L i).cls = true ∧ liveF W (tAt W.L i).F = true) := by
  unfold refT headT
  simp only [Bool.and_eq_true, Bool.or_eq_true, decide_eq_true_eq, fmt_iff]
  constructor
  · rintro ⟨⟨a, b, c, d⟩, e, f⟩
    refine ⟨a, c, d, e, fun hl => ⟨?_, f hl⟩⟩
    rcases b with b | b
    · rw [hl] at b; cases b
    · exact b
  · rintro ⟨a, c, d, e, f⟩
    refine ⟨⟨a, ?_, c, d⟩, e, fun hl => (f hl).2⟩
    cases hl : liveB W i with
    | false => exact .inl rfl
    | true => exact .inr (f hl).1
theorem one_iff (W : PW) (i : Nat) : oneB W i = true ↔ prevH W.L i < (tAt W.L i).hash ∧ (tAt W.L i).hash ≤ 3000 ∧ (0 ≤ (tAt W.L i).cls ∧ (tAt W.L i).cls < W.L.length) ∧ shapeB W.L.length (tAt W.L i) = true ∧
    (liveB W i = true → classB W (tAt W.L i).cls = true ∧ liveF W (tAt W.L i).F = true) ∧ (liveB W i = false → 23 ≤ i) := by
  unfold oneB thingB classB
  simp only [Bool.and_eq_true, decide_eq_true_eq]
  cases hl : liveB W i with
  | false => simp
  | true =>
    simp only [if_true, Bool.and_eq_true]
    constructor
    · rintro ⟨a, b, c, d, e, f, g⟩; exact ⟨a, b, c, d, fun _ => ⟨⟨e, f⟩, g⟩, fun h => by cases h⟩
    · rintro ⟨a, b, c, d, e, _⟩; obtain ⟨⟨x, y⟩, z⟩ := e trivial; exact ⟨a, b, c, d, x, y, z⟩
theorem one_pos (W : PW) (n : Nat) (h : ∀ i, i < n → oneB W i = true) : ∀ i, i < n → 1 ≤ (tAt W.L i).hash := by
  intro i
  induction i with
  | zero => intro hi; have := ((one_iff W 0).1 (h 0 hi)).1; have e : prevH W.L 0 = 0 := rfl; omega
  | succ i ih =>
    intro hi
    have a := ((one_iff W (i + 1)).1 (h _ hi)).1
    have b := ih (by omega)
    rw [prevH_succ] at a
    omega
theorem things_iff (W : PW) : ((∀ i, i < W.L.length → refT W i = true) ∧ ∀ i, i < 23 → rspecB W i = true) ↔ (23 ≤ W.L.length → (∀ i, i < W.L.length → oneB W i = true) ∧ (∀ i, i < 23 → spec1B W i = true)) ∧ (23 ≤ W.L.length ∨ ((∀ i, i < W.L.length → refT W i = true) ∧ ∀ i, i < 23 → rspecB W i = true)) := by
  constructor
  · rintro ⟨h1, h2⟩
    refine ⟨fun hn => ⟨fun i hi => ?_, fun i hi => ?_⟩, .inr ⟨h1, h2⟩⟩
    · obtain ⟨a, b, c, d, e⟩ := (refT_iff W i).1 (h1 i hi)
      refine (one_iff W i).2 ⟨?_, b.2, a, d, e, fun hl => ?_⟩
      · rcases c with c | c
        · subst c; have q : prevH W.L 0 = 0 := rfl; omega
        · exact c
      · rcases Nat.lt_or_ge i 23 with q | q
        · have r := h2 i q
          unfold rspecB at r
          rw [hl] at r; cases r
        · exact q
    · have r := h2 i hi
      unfold rspecB at r
      rw [Bool.and_eq_true] at r
      exact r.2
  · rintro ⟨h, hn | hn⟩
    · obtain ⟨h1, h2⟩ := h hn
      have hp := one_pos W W.L.length h1
      refine ⟨fun i hi => ?_, fun i hi => ?_⟩
      · obtain ⟨a, b, c, d, e, f⟩ := (one_iff W i).1 (h1 i hi)
        exact (refT_iff W i).2 ⟨c, ⟨hp i hi, b⟩, .inr a, d, e⟩
      · obtain ⟨a, b, c, d, e, f⟩ := (one_iff W i).1 (h1 i (by omega))
        unfold rspecB
        rw [h2 i hi, Bool.and_true]
        cases hl : liveB W i with
        | true => rfl
        | false => have := f hl; omega
    · exact hn
theorem unl_once (W : PW) (l : List Int) (h : thereL W l = true) : allTo (unlB W.L.length l) l.length = onceB l := by
  unfold thereL at h
  have h := (allTo_iff _ _).1 h
  rw [Bool.eq_iff_iff]
  unfold onceB
  rw [allTo_iff, allTo_iff]
  have e : ∀ j, j < l.length → unlB W.L.length l j = !(l.take j).contains (l.getD j 0) := fun j hj => by
    unfold unlB
    have q := there_in (h j hj)
    rw [decide_eq_true q, Bool.true_and]
  constructor
  · intro g i hi; rw [← e i hi]; exact g i hi
  · intro g i hi; rw [e i hi]; exact g i hi
theorem live_there (W : PW) (h0 : liveB W 0 = true) (p : Int) : liveB W p = (decide (p = 0) || thereB W p) := by
  unfold thereB
  by_cases h : p = 0
  · subst h; rw [h0]; simp
  · rw [decide_eq_false h]; simp
theorem regs_iff (W : PW) (h0 : liveB W 0 = true) : regR W = regsB W := by
  unfold regR tailC tailR regsB
  rw [live_there W h0 W.R.proc, live_there W h0 W.R.frame]
  cases h : thereL W W.R.due with
  | false => simp
  | true =>
    rw [unl_once W _ h]
    rw [Bool.eq_iff_iff]
    simp only [Bool.and_eq_true, decide_eq_true_eq, true_and]
    constructor
    · rintro ⟨a, b, c, d, ⟨e, f⟩, g, i, j, k, l, m, n, o, p, q⟩
      simp_all
      omega
    · intro hh
      simp_all
      omega
theorem ref_chk (W : PW) : refChk W = checkB W := by
  unfold refChk checkB
  by_cases hn : 23 ≤ W.L.length ∧ W.L.length ≤ 3000
  · rw [decide_eq_true hn, Bool.true_and, Bool.true_and]
    congr 1
    have TI := things_iff W
    obtain ⟨k, hk⟩ : ∃ k, W.L.length = k + 1 := ⟨W.L.length - 1, by omega⟩
    have hp : prevH W.L W.L.length = (tAt W.L (W.L.length - 1)).hash := by rw [hk]; rfl
    rw [Bool.eq_iff_iff]
    unfold thingsB specB
    simp only [Bool.and_eq_true, allTo_iff, decide_eq_true_eq, hp]
    constructor
    · rintro ⟨a, b, c, d, e⟩
      obtain ⟨x, y⟩ := (TI.1 ⟨a, b⟩).1 hn.1
      have l0 : liveB W 0 = true := by
        have r := b 0 (by omega)
        unfold rspecB at r
        rw [Bool.and_eq_true] at r
        exact r.1
      rw [regs_iff W l0] at c
      exact ⟨⟨x, d, e⟩, y, c⟩
    · rintro ⟨⟨x, d, e⟩, y, c⟩
      obtain ⟨a, b⟩ := TI.2 ⟨fun _ => ⟨x, y⟩, .inl hn.1⟩
      have l0 : liveB W 0 = true := by
        have r := b 0 (by omega)
        unfold rspecB at r
        rw [Bool.and_eq_true] at r
        exact r.1
      rw [← regs_iff W l0] at c
      exact ⟨a, b, c, d, e⟩
  · rw [decide_eq_false hn, Bool.false_and, Bool.false_and]
theorem check7 {w : World} {x : WV} {W : PW} (h : WorldAt w x W) : Calls Tryz.prog 46 #[.agg (cellsW W x)] w fun e w' => e = .returned (.bool (checkB W)) ∧ Ext w w' := by
  have q := rcheck h
  rw [ref_chk] at q
  exact q
end Go.Proofs.YtjpalcejmloocaaGreat.World
