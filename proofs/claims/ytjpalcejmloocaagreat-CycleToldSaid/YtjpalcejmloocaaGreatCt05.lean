/-
  Image2, as one text (a claim has at most 60 files).
-/
import Derived.Test.YtjpalcejmloocaaGreatCt04
namespace Go.Proofs.YtjpalcejmloocaaGreat.World
open Go.RowKit Go.Proofs.YtjpalcejmloocaaGreat.Plain
set_option linter.unusedVariables false
attribute [local go_sem ↓] Go.wp_at_zero Go.wp_at_succ

/-- what slices.IndexFunc says: the first place at which p says yes -/
def IdxPost (w : World) (n : Nat) (p : Nat → Bool) (e : Ending) (w' : World) : Prop :=
  ∃ r : Int, e = .returned (.int .i64 r) ∧ ((allTo (fun j => !p j) n = true ∧ r = -1) ∨ (allTo (fun j => !p j) n = false ∧ 0 ≤ r ∧ r < n)) ∧ Ext w w'
theorem allTo_succ (f : Nat → Bool) (n : Nat) (h : allTo f n = true) (h2 : f n = true) : allTo f (n + 1) = true := by rw [allTo, h, h2]; rfl
section
variable {w : World}
set_option maxRecDepth 100000 in
set_option maxHeartbeats 1000000 in
theorem indexV {F : List PV} {vF : Value} (hv : ValsAt w vF F) (k : Nat) (hk : ∀ (args : Array Value) (W : World), (callFunc k args).run Tryz.prog W = .ok (.enter k args) W) (cap : Value) (p : Nat → Bool)
    (hf : ∀ i, i < F.length → ∀ w', Ext w w' → Calls Tryz.prog k #[.agg #[.bool (vAt F i).obj, .int .i64 (vAt F i).n], cap] w' fun e w'' => e = .returned (.bool (p i)) ∧ Ext w' w'') :
    Calls Tryz.prog 111 #[vF, .func (.func k) #[] #[cap]] w (IdxPost w F.length p) := by
  obtain ⟨A, c, rfl, h1, h2⟩ := Row.form hv
  have hv : Row w (.slice A F.length c) F.length 2 (fun i j => cV (vAt F i) j) := hv
  have HR := Lib.hid hv
  have HF := Lib.hid hf
  have AF := Lib.hid (allTo_false (fun j => !p j) F.length)
  have AS := Lib.hid (allTo_succ (fun j => !p j))
  clear hv hf
  generalize hn : F.length = n at *
  have HN := Lib.hid hn
  clear hn
  go_enter Tryz.func111, Tryz.ntmps111
  go_wp2
  go_loopw [8] (fun iv wr => ∃ i : Nat, i ≤ n ∧ iv = .int .i64 i ∧ allTo (fun j => !p j) i = true ∧ Ext w wr) (fun iv _ => n - (intOf iv).toNat)
  case atStart => exact ⟨0, Nat.zero_le _, rfl, rfl, Ext.refl _⟩
  case round =>
    obtain ⟨i, hi, rfl, ha, x⟩ := hrel
    have HA := Lib.hid ha
    have X := Lib.hid x
    clear ha
    by_cases hlt : i < n
    · obtain ⟨b, off, rfl, hb, hc⟩ := Row.at_ HR.out i hlt
      have c0 : wr.cell? ⟨b, off + i * 2, none⟩ = some (.bool (vAt F i).obj) := (x.below.cell (p := ⟨b, off + i * 2, none⟩) hb).trans (hc 0 (by omega))
      have c1 : wr.cell? ⟨b, off + i * 2 + 1, none⟩ = some (.int .i64 (vAt F i).n) := (x.below.cell (p := ⟨b, off + i * 2 + 1, none⟩) hb).trans (hc 1 (by omega))
      have C := Lib.hid (HF.out i hlt wr x)
      have iI : (i : Int) < (n : Int) := by omega
      clear hc x
      generalize vAt F i = v at *
      cases hp : p i with
      | true =>
        rw [hp] at C
        have AN := Lib.hid (AF.out i hlt (by rw [hp]; rfl))
        clear hp
        go_wp2_with fail
        refine C.out.mono ?_
        rintro e w2 ⟨rfl, x2⟩
        go_wp2_with fail
        go_ret
        exact ⟨_, rfl, .inr ⟨AN.out, by omega, by omega⟩, X.out.trans x2⟩
      | false =>
        rw [hp] at C
        have AN := Lib.hid (AS.out i HA.out (by rw [hp]; rfl))
        clear hp
        go_wp2_with fail
        refine C.out.mono ?_
        rintro e w2 ⟨rfl, x2⟩
        go_wp2_with fail
        go_roundw
        case rel => exact ⟨i + 1, by omega, by go_num, AN.out, X.out.trans x2⟩
        case measure => simp [intOf]; omega
    · obtain rfl : i = n := by omega
      go_wp2
      go_ret
      exact ⟨_, rfl, .inl ⟨HA.out, rfl⟩, X.out⟩
set_option maxRecDepth 100000 in
set_option maxHeartbeats 1000000 in
theorem containsV {F : List PV} {vF : Value} (hv : ValsAt w vF F) (k : Nat) (hk : ∀ (args : Array Value) (W : World), (callFunc k args).run Tryz.prog W = .ok (.enter k args) W) (cap : Value) (p : Nat → Bool)
    (hf : ∀ i, i < F.length → ∀ w', Ext w w' → Calls Tryz.prog k #[.agg #[.bool (vAt F i).obj, .int .i64 (vAt F i).n], cap] w' fun e w'' => e = .returned (.bool (p i)) ∧ Ext w' w'') :
    Calls Tryz.prog 84 #[vF, .func (.func k) #[] #[cap]] w fun e w' => e = .returned (.bool (!allTo (fun j => !p j) F.length)) ∧ Ext w w' := by
  have C := Lib.hid (indexV hv k hk cap p hf)
  clear hv hf
  go_enter Tryz.func84, Tryz.ntmps84
  go_wp2_with fail
  refine C.out.mono ?_
  rintro e w2 ⟨r, rfl, hr, x⟩
  have X := Lib.hid x
  rcases hr with ⟨h1, rfl⟩ | ⟨h1, h2, h3⟩
  · have H1 := Lib.hid h1
    clear h1 x
    go_wp2_with fail
    go_ret
    exact ⟨ret_bool (by rw [H1.out]; rfl), X.out⟩
  · have H1 := Lib.hid h1
    clear h1 x h3
    go_wp2_with fail
    go_ret
    exact ⟨ret_bool (by rw [H1.out]; rfl), X.out⟩
variable {x : WV} {W : PW}
/-- the box in which a method's world lies -/
def Box (w : World) (wb : Nat) (W : PW) (x : WV) : Prop := Blk w wb 90 (cellsW W x)
theorem Box.ext {w' : World} {wb : Nat} (h : Box w wb W x) (e : Ext w w') : Box w' wb W x := Blk.ext h e
set_option maxRecDepth 100000 in
set_option maxHeartbeats 1000000 in
theorem shape1 {wb : Nat} (h : WorldAt w x W) (hb : Box w wb W x) (v : PV) : Calls Tryz.prog 109 #[.agg #[.bool v.obj, .int .i64 v.n], .pointer (some ⟨wb, 0, none⟩)] w fun e w' => e = .returned (.bool (!fldB W.L.length v)) ∧ Ext w w' := by
  obtain ⟨vL, fs, vD, vRe, vWa, vDu, vSn⟩ := x
  obtain ⟨AL, cL, e1, l1, l2⟩ := h.L.row.form
  have e1 : vL = .slice AL W.L.length cL := e1
  subst e1
  obtain ⟨r1, r2, r3⟩ := Blk.rules hb
  unfold cellsW at r1
  have r10 : w.cell? ⟨wb, 0, none⟩ = some (.slice AL W.L.length cL) := r1 0
  have E : Hid (fldB W.L.length v = if v.obj then decide (0 ≤ v.n ∧ v.n < W.L.length) else fitsB v.n) := rfl
  clear h hb r1 r2
  generalize W.L.length = n at *
  cases hv : v.obj with
  | true =>
    rw [hv] at E
    go_enter Tryz.func109, Tryz.ntmps109
    go_wp2
    all_goals
      go_ret
      refine ⟨ret_bool ?_, (Ext.refl _).alloc _⟩
      rw [E.out]
      simp [*] <;> omega
  | false =>
    rw [hv] at E
    have F := Lib.hid (fun W => Word.fits v.n W)
    clear hv
    go_enter Tryz.func109, Tryz.ntmps109
    go_wp2_with fail
    refine (F.out _).mono ?_
    rintro e w1 ⟨rfl, rfl⟩
    go_wp2_with fail
    go_ret
    exact ⟨ret_bool (by rw [E.out]; rfl), (Ext.refl _).alloc _⟩
theorem emp_size (s : ByteArray) : s.toList.isEmpty = decide (s.size = 0) := by
  rw [ByteArray.toList_eq, Bool.eq_iff_iff, List.isEmpty_iff, decide_eq_true_iff]
  constructor
  · intro h; have : s.data.toList.length = 0 := by rw [h]; rfl
    simpa using this
  · intro h; exact List.length_eq_zero_iff.1 (by simpa using h)
/-! ### shape -/
theorem shape_kind (t : PT) (n : Nat) : (t.fmt = 3 ∧ shapeB n t = (decide (t.F.length = 0) && decide (t.B.size ≤ 200))) ∨ (t.fmt ≠ 3 ∧ (t.fmt = 1 ∨ t.fmt = 2) ∧ shapeB n t = (decide (t.B.size = 0) && (decide (t.F.length ≤ 60) && fldsB n t.F))) ∨ (t.fmt ≠ 3 ∧ t.fmt ≠ 1 ∧ t.fmt ≠ 2 ∧ shapeB n t = false) := by
  unfold shapeB
  by_cases h3 : t.fmt = 3
  · left; exact ⟨h3, by rw [if_pos h3]⟩
  · by_cases h1 : t.fmt = 1 ∨ t.fmt = 2
    · right; left; exact ⟨h3, h1, by rw [if_neg h3, if_pos h1]⟩
    · right; right; exact ⟨h3, fun e => h1 (.inl e), fun e => h1 (.inr e), by rw [if_neg h3, if_neg h1]⟩
set_option maxRecDepth 100000 in
set_option maxHeartbeats 2000000 in
theorem shape (h : WorldAt w x W) {t : PT} {vF : Value} (hv : ValsAt w vF t.F) (hB : t.B.size ≤ maxLen) : Calls Tryz.prog 81 #[.agg (cellsW W x), thingV t vF] w fun e w' => e = .returned (.bool (shapeB W.L.length t)) ∧ Ext w w' := by
  have HH := Lib.hid h
  have HV := Lib.hid hv
  obtain ⟨vL, fs, vD, vRe, vWa, vDu, vSn⟩ := x
  obtain ⟨A, c, rfl, l1, l2⟩ := Row.form hv
  have SK := shape_kind t W.L.length
  clear h hv
  unfold thingV cellsW
  unfold maxLen at hB
  rcases SK with ⟨f3, E⟩ | ⟨f3, f12, E⟩ | ⟨f3, f1, f2, E⟩
  · replace E := Lib.hid E
    rw [f3]
    clear f3
    generalize t.F.length = n at *
    by_cases h0 : n = 0
    · subst h0
      go_enter Tryz.func81, Tryz.ntmps81
      go_wp2
      go_ret
      exact ⟨ret_bool (by rw [E.out]; simp only [decide_true, Bool.true_and]; exact decide_eq_decide.2 (by omega)), ((Ext.refl _).alloc _).alloc _⟩
    · have d0 : ((n : Int) == 0) = false := beq_eq_false_iff_ne.2 (by omega)
      go_enter Tryz.func81, Tryz.ntmps81
      go_wp2
      go_ret
      exact ⟨ret_bool (by rw [E.out, decide_eq_false h0]; rfl), ((Ext.refl _).alloc _).alloc _⟩
  · replace E := Lib.hid E
    have d3 : (t.fmt == 3) = false := beq_eq_false_iff_ne.2 f3
    have C := Lib.hid (fun (w' : World) (e : Ext w w') (wb : Nat) (B : Box w' wb W ⟨vL, fs, vD, vRe, vWa, vDu, vSn⟩) => containsV (HV.out.ext e) 109 (fun _ _ => by kernel_rfl) (.pointer (some ⟨wb, 0, none⟩)) (fun j => !fldB W.L.length (vAt t.F j)) (fun i hi w'' e' => shape1 ((HH.out.ext e).ext e') (B.ext e') (vAt t.F i)))
    have hE := emp_size t.B
    have EF : Hid (fldsB W.L.length t.F = allTo (fun j => !!fldB W.L.length (vAt t.F j)) t.F.length) := Lib.hid (by unfold fldsB; simp only [Bool.not_not])
    generalize t.F.length = n at *
    by_cases hB0 : t.B.size = 0
    · rw [decide_eq_true hB0] at hE E
      by_cases h60 : n ≤ 60
      · rw [decide_eq_true h60] at E
        rcases f12 with f | f
        all_goals
          rw [f]
          rw [f] at d3
          clear f3 hB0
          go_enter Tryz.func81, Tryz.ntmps81
          go_wp2_with fail
          refine (C.out _ (((Ext.refl _).alloc _).alloc _) w.heap.size ((Blk.new _ _ _).alloc _)).mono ?_
          rintro e w1 ⟨rfl, x1⟩
          have X1 := Lib.hid ((((Ext.refl w).alloc _).alloc _).trans x1)
          clear x1
          generalize hq : allTo (fun j => !!fldB W.L.length (vAt t.F j)) n = q at *
          clear hq
          go_wp2_with fail
          go_ret
          exact ⟨ret_bool (by rw [E.out, EF.out]; simp), X1.out⟩
      · have E2 : Hid (shapeB W.L.length t = false) := Lib.hid (by rw [E.out, decide_eq_false h60]; rfl)
        have d60 : decide ((n : Int) ≤ 60) = false := decide_eq_false (by omega)
        rcases f12 with f | f
        all_goals
          rw [f]
          rw [f] at d3
          clear f3 hB0
          go_enter Tryz.func81, Tryz.ntmps81
          go_wp2
          go_ret
          exact ⟨ret_bool (by rw [E2.out]), ((Ext.refl _).alloc _).alloc _⟩
    · rw [decide_eq_false hB0] at hE E
      rcases f12 with f | f
      all_goals
        rw [f]
        rw [f] at d3
        clear f3 hB0
        go_enter Tryz.func81, Tryz.ntmps81
        go_wp2
        go_ret
        exact ⟨ret_bool (by rw [E.out]; rfl), ((Ext.refl _).alloc _).alloc _⟩
  · replace E := Lib.hid E
    have d3 : (t.fmt == 3) = false := beq_eq_false_iff_ne.2 f3
    have d1 : (t.fmt == 1) = false := beq_eq_false_iff_ne.2 f1
    have d2 : (t.fmt == 2) = false := beq_eq_false_iff_ne.2 f2
    clear f3 f1 f2
    go_enter Tryz.func81, Tryz.ntmps81
    go_wp2
    go_ret
    exact ⟨ret_bool (by rw [E.out]), ((Ext.refl _).alloc _).alloc _⟩
end
end Go.Proofs.YtjpalcejmloocaaGreat.World
