/-
  Cyc5, as one text (a claim has at most 60 files).
-/
import Derived.Test.YtjpalcejmloocaaGreatCt26
import Derived.Test.YtjpalcejmloocaaGreatCt08
import Derived.Lib.SliceRun
namespace Go.Proofs.YtjpalcejmloocaaGreat.World
open Go.RowKit Go.Lib Go.Proofs.YtjpalcejmloocaaGreat.Plain
set_option linter.unusedVariables false
attribute [local go_sem ↓] Go.wp_at_zero Go.wp_at_succ
section
variable {w w' w2 : World} {F F' F2 : Nat → Prop} {m : Nat} {S S' : MS} {X : MX}
theorem TsAt.afar {P : Nat → Prop} (h : TsAt w F S X) (k : Keep P w w') (hp : ∀ j, P j → ¬ F j) : TsAt w' F S X :=
  ⟨h.bt.keep k (fun hh => hp _ hh h.bF), h.bF, h.L.far k (fun j hj hh => hp _ hh (h.LF j hj)), h.LF, fun i hi => (h.fs i hi).far k (fun j hj hh => hp _ hh (h.fF i hi j hj)), h.fF, h.ap, h.dead.far k (fun j hj hh => hp _ hh (h.dF j hj)), h.dF, h.col.far k (fun j hj hh => hp _ hh (h.colF j hj)), h.colF⟩
theorem MemAt.afar {P : Nat → Prop} (h : MemAt w F m S X) (k : Keep P w w') (hp : ∀ j, P j → ¬ F j) : MemAt w' F m S X := by
  obtain ⟨f1, f2, f3, f4⟩ := h.rF
  have r := h.R
  refine ⟨h.ts.afar k hp, h.bm.keep k (fun hh => hp _ hh h.mF), h.mF, fun j hj => Nat.lt_of_lt_of_le (h.lt j hj) k.size, h.wf, ?_, h.rF, h.ac, h.st.keep k (fun hh => hp _ hh h.sF), h.sF, Row.far h.li k (fun j hj hh => hp _ hh (h.lF.1 j hj)), h.lF, fun j hj => ?_⟩
  · exact ⟨r.ap, r.re.far k (fun j hj hh => hp _ hh (f1 j hj)), r.wa.far k (fun j hj hh => hp _ hh (f2 j hj)), r.du.far k (fun j hj hh => hp _ hh (f3 j hj)), r.sn.far k (fun j hj hh => hp _ hh (f4 j hj))⟩
  · obtain ⟨cs, b⟩ := h.lT j hj
    exact ⟨cs, b.keep k (fun hh => hp _ hh (h.lF.1 j hj))⟩
theorem M.afar {P : Nat → Prop} (h : M w F m S) (k : Keep P w w') (hp : ∀ j, P j → ¬ F j) : M w' F m S := by
  obtain ⟨X, h⟩ := h
  exact ⟨X, h.afar k hp⟩
theorem keep_setCells (b : Nat) : ∀ (vs : List Value) (o : Nat) (w : World), Keep (· = b) w (w.setCells b o vs)
  | [], o, w => Keep.refl _ w
  | v :: vs, o, w => ((Keep.refl (· = b) w).setCell (p := ⟨b, o, none⟩) rfl v).trans (keep_setCells b vs (o + 1) _)
/-- the first place of those that are so, or -1 -/
def Idx1 (w : World) (n : Nat) (p : Nat → Bool) (e : Ending) (w' : World) : Prop :=
  ∃ r : Int, e = .returned (.int .i64 r) ∧ (((∀ j, j < n → p j = false) ∧ r = -1) ∨ ∃ z : Nat, r = z ∧ z < n ∧ p z = true ∧ ∀ j, j < z → p j = false) ∧ Ext w w'
set_option maxRecDepth 100000 in
set_option maxHeartbeats 1000000 in
theorem indexI1 {l : List Int} {vF : Value} (hv : IntsAt w vF l) (k : Nat) (hk : ∀ (args : Array Value) (W : World), (callFunc k args).run Tryz.prog W = .ok (.enter k args) W) (cap : Value) (p : Int → Bool)
    (hf : ∀ i, i < l.length → ∀ w', Ext w w' → Calls Tryz.prog k #[.int .i64 (l.getD i 0), cap] w' fun e w'' => e = .returned (.bool (p (l.getD i 0))) ∧ Ext w' w'') :
    Calls Tryz.prog 86 #[vF, .func (.func k) #[] #[cap]] w (Idx1 w l.length (fun i => p (l.getD i 0))) := by
  obtain ⟨A, c, rfl, h1, h2⟩ := Row.form hv
  have hv : Row w (.slice A l.length c) l.length 1 (fun i _ => .int .i64 (l.getD i 0)) := hv
  have HR := Lib.hid hv
  have HF := Lib.hid hf
  clear hv hf
  generalize hn : l.length = n at *
  have HN := Lib.hid hn
  clear hn
  go_enter Tryz.func86, Tryz.ntmps86
  go_wp2
  go_loopw [8] (fun iv wr => ∃ i : Nat, i ≤ n ∧ iv = .int .i64 i ∧ (∀ j, j < i → p (l.getD j 0) = false) ∧ Ext w wr) (fun iv _ => n - (intOf iv).toNat)
  case atStart => exact ⟨0, Nat.zero_le _, rfl, fun j hj => absurd hj (Nat.not_lt_zero _), Ext.refl _⟩
  case round =>
    obtain ⟨i, hi, rfl, ha, x⟩ := hrel
    have HA := Lib.hid ha
    have X := Lib.hid x
    clear ha
    by_cases hlt : i < n
    · obtain ⟨b, off, rfl, hb, hc⟩ := Row.at_ HR.out i hlt
      have c0 : wr.cell? ⟨b, off + i * 1, none⟩ = some (.int .i64 (l.getD i 0)) := (x.below.cell (p := ⟨b, off + i * 1, none⟩) hb).trans (hc 0 (by omega))
      rw [Nat.mul_one] at c0
      have C := Lib.hid (HF.out i hlt wr x)
      have iI : (i : Int) < (n : Int) := by omega
      have GV := Lib.hid (rfl : l.getD i 0 = l.getD i 0)
      clear hc x
      generalize hv : l.getD i 0 = v at *
      have HV := Lib.hid hv
      clear hv GV
      cases hp : p v with
      | true =>
        rw [hp] at C
        have HP := Lib.hid hp
        clear hp
        go_wp2_with fail
        refine C.out.mono ?_
        rintro e w2 ⟨rfl, x2⟩
        go_wp2_with fail
        go_ret
        exact ⟨_, rfl, .inr ⟨i, rfl, hlt, by show p (l.getD i 0) = true; rw [HV.out]; exact HP.out, HA.out⟩, X.out.trans x2⟩
      | false =>
        rw [hp] at C
        have HP := Lib.hid hp
        clear hp
        go_wp2_with fail
        refine C.out.mono ?_
        rintro e w2 ⟨rfl, x2⟩
        go_wp2_with fail
        go_roundw
        case rel => exact ⟨i + 1, by omega, by go_num, fun j hj => by
          rcases Nat.lt_or_ge j i with h | h
          · exact HA.out j h
          · obtain rfl : j = i := by omega
            rw [HV.out]; exact HP.out, X.out.trans x2⟩
        case measure => simp [intOf]; omega
    · obtain rfl : i = n := by omega
      go_wp2
      go_ret
      exact ⟨_, rfl, .inl ⟨HA.out, rfl⟩, X.out⟩
theorem filter_all {l : List Int} {p : Int → Bool} (h : ∀ j, j < l.length → p (l.getD j 0) = false) : l.filter (fun z => !p z) = l := by
  rw [List.filter_eq_self]
  intro a ha
  obtain ⟨j, hj, e⟩ := List.getElem_of_mem ha
  have := h j hj
  rw [List.getD_eq_getElem?_getD, List.getElem?_eq_getElem hj] at this
  have this : p l[j] = false := this
  rw [e] at this
  rw [this]; rfl
theorem filter_take {l : List Int} {p : Int → Bool} {z : Nat} (hz : z < l.length) (hp : p (l.getD z 0) = true) (h : ∀ j, j < z → p (l.getD j 0) = false) : (l.take (z + 1)).filter (fun z => !p z) = l.take z := by
  rw [take_next hz, List.filter_append, List.filter_cons_of_neg (by rw [hp]; decide), List.filter_nil, List.append_nil]
  refine filter_all fun j hj => ?_
  have hj2 : j < z := by rw [List.length_take] at hj; omega
  have := h j hj2
  rw [List.getD_eq_getElem?_getD] at this ⊢
  rw [List.getElem?_take_of_lt hj2]; exact this
theorem filter_next {l : List Int} {p : Int → Bool} {j : Nat} (hj : j < l.length) : (l.take (j + 1)).filter (fun z => !p z) = if p (l.getD j 0) then (l.take j).filter (fun z => !p z) else (l.take j).filter (fun z => !p z) ++ [l.getD j 0] := by
  rw [take_next hj, List.filter_append]
  cases h : p (l.getD j 0) with
  | true => rw [List.filter_cons_of_neg (by rw [h]; decide), List.filter_nil, List.append_nil, if_pos rfl]
  | false => rw [List.filter_cons_of_pos (by rw [h]; rfl), List.filter_nil, if_neg (by decide)]
theorem own_set {b g n cap i : Nat} {l : List Int} {u : Int} (h : Own w b 3 (.slice (some ⟨g, 0, none⟩) n cap) n 1 (cI l)) (hl : l.length = n) (hi : i < n) : Own (w.setCell ⟨g, i, none⟩ (.int .i64 u)) b 3 (.slice (some ⟨g, 0, none⟩) n cap) n 1 (cI (l.set i u)) := by
  have o := h.store i 0 hi (by omega) (.int .i64 u)
  rw [show i * 1 + 0 = i by omega] at o
  refine o.congr fun q j hq hj => ?_
  obtain rfl : j = 0 := by omega
  show _ = Value.int .i64 ((l.set i u).getD q 0)
  rw [List.getD_eq_getElem?_getD, List.getElem?_set]
  by_cases e : q = i
  · subst e; rw [if_pos ⟨rfl, rfl⟩, if_pos rfl, if_pos (by omega)]; rfl
  · rw [if_neg (fun q => e q.1), if_neg (fun q => e q.symm)]
    show Value.int .i64 (l.getD q 0) = _
    rw [List.getD_eq_getElem?_getD]
set_option maxRecDepth 100000 in
set_option maxHeartbeats 2000000 in
theorem delI {l : List Int} {v : Value} {base : Nat} (ho : OwnI w base v l) (hl : l.length ≤ 100000) (k : Nat) (hk : ∀ (args : Array Value) (W : World), (callFunc k args).run Tryz.prog W = .ok (.enter k args) W) (cap : Value) (p : Int → Bool)
    (hf : ∀ i, i < l.length → ∀ w', Keep (fun j => v.ownBlock = some j) w w' → Calls Tryz.prog k #[.int .i64 (l.getD i 0), cap] w' fun e w'' => e = .returned (.bool (p (l.getD i 0))) ∧ Ext w' w'') :
    Calls Tryz.prog 91 #[v, .func (.func k) #[] #[cap]] w fun e w' => (∃ A c, e = .returned (.slice A (l.filter (fun z => !p z)).length c) ∧ IntsAt w' (.slice A (l.filter (fun z => !p z)).length c) (l.filter (fun z => !p z)) ∧ ∀ j, (Value.slice A (l.filter (fun z => !p z)).length c).ownBlock = some j → v.ownBlock = some j) ∧ Keep (fun j => v.ownBlock = some j) w w' := by
  have C1 := Lib.hid (indexI1 ho.ints k hk cap p (fun i hi w' x => hf i hi w' (Keep.of_ext x _)))
  have HF := Lib.hid hf
  have HO := Lib.hid ho
  obtain ⟨A, c, ev⟩ := ho.own.form
  subst ev
  clear ho hf
  obtain ⟨n, hn⟩ : ∃ n, l.length = n := ⟨_, rfl⟩
  have HN := Lib.hid hn
  rw [hn] at HO hl C1 HF ⊢
  clear hn
  go_enter Tryz.func91, Tryz.ntmps91
  go_wp2_with fail
  refine C1.out.mono ?_
  rintro e w2 ⟨r, rfl, hr, x2⟩
  have X2 := Lib.hid x2
  clear x2 C1
  rcases hr with ⟨ha, rfl⟩ | ⟨z, rfl, hz, hpz, hbz⟩
  · have FA := Lib.hid (filter_all (l := l) (p := p) (fun j hj => ha j (by rw [← HN.out]; exact hj)))
    clear ha HF hk
    go_wp2_with fail
    go_ret
    rw [FA.out, HN.out]
    exact ⟨⟨A, c, rfl, by have := (HO.out.ext X2.out).ints; exact this, fun j hj => hj⟩, Keep.of_ext X2.out _⟩
  · have e1 : ((z : Int) == -1) = false := beq_eq_false_iff_ne.2 (by omega)
    have FT := Lib.hid (filter_take (l := l) (p := p) (by rw [HN.out]; exact hz) hpz hbz)
    have O2 : Hid (Own w2 base 3 (.slice A n c) n 1 (cI l)) := Lib.hid (by have := (HO.out.ext X2.out).own; rw [HN.out] at this; exact this)
    obtain ⟨g, cap', ea, hcap, hcap2, _⟩ := O2.out.lt z hz
    injection ea with ea _ ec
    subst ea ec
    clear hpz hbz
    have hzI : (z : Int) < (n : Int) := by omega
    go_wp2_with fail
    rename World => wo
    go_loopw [5, 6] (fun iv jv wr => ∃ (i j : Nat) (l' : List Int), i < j ∧ j ≤ n ∧ iv = .int .i64 i ∧ jv = .int .i64 j ∧ l'.length = n ∧ l'.take i = (l.take j).filter (fun z => !p z) ∧ (∀ q, j ≤ q → l'.getD q 0 = l.getD q 0) ∧ Own wr base 3 (.slice (some ⟨g, 0, none⟩) n c) n 1 (cI l') ∧ Keep (fun j => (Value.slice (some ⟨g, 0, none⟩) n c).ownBlock = some j) wo wr) (fun _ jv _ => n - (intOf jv).toNat)
    case atStart => exact ⟨z, z + 1, l, by omega, by omega, rfl, by go_num, HN.out, FT.out.symm, fun q _ => rfl, O2.out, Keep.refl _ _⟩
    case round =>
      clear hz e1 hzI O2 FT
      obtain ⟨i, j, l', hij, hj, rfl, rfl, hl', ht, hd, o, kp⟩ := hrel
      have O := Lib.hid o
      have KP := Lib.hid kp
      have HT := Lib.hid ht
      have HL := Lib.hid hl'
      have HD := Lib.hid hd
      clear o kp ht hl' hd
      by_cases hlt : j < n
      · have jI : (j : Int) < (n : Int) := by omega
        have iI : (i : Int) < (n : Int) := by omega
        obtain ⟨g', cp', e', _, _, hg, hc, hfz, _⟩ := O.out.lt j hlt
        injection e' with ea _ ec
        injection ea with ea
        injection ea with ea
        subst ea ec
        have c0 : wr.cell? ⟨g, j, none⟩ = some (.int .i64 (l.getD j 0)) := by
          have := hc 0 (by omega)
          rw [Nat.mul_one] at this
          rw [← HD.out j (Nat.le_refl _)]; exact this
        have C := Lib.hid (HF.out j hlt wr ((Keep.of_ext X2.out _).trans KP.out))
        have FN := Lib.hid (filter_next (l := l) (p := p) (j := j) (by rw [HN.out]; exact hlt))
        clear hc hfz
        generalize hv : l.getD j 0 = u at *
        clear hv
        cases hp : p u with
        | true =>
          rw [hp] at C FN
          rw [if_pos rfl] at FN
          clear hp
          go_wp2_with fail
          refine C.out.mono ?_
          rintro e w4 ⟨rfl, x4⟩
          have X4 := Lib.hid x4
          clear x4
          go_wp2_with fail
          go_roundw
          case rel => exact ⟨i, j + 1, l', by omega, by omega, rfl, by go_num, HL.out, by rw [FN.out]; exact HT.out, fun q hq => HD.out q (by omega), O.out.ext X4.out, KP.out.ext X4.out⟩
          case measure => simp [intOf]; omega
        | false =>
          rw [hp] at C FN
          rw [if_neg (by decide)] at FN
          clear hp
          go_wp2_with fail
          refine C.out.mono ?_
          rintro e w4 ⟨rfl, x4⟩
          have X4 := Lib.hid x4
          have O4 := Lib.hid (O.out.ext x4)
          obtain ⟨g5, cp5, e5, _, _, hg4, hc4, hf4, _⟩ := O4.out.lt i (by omega)
          injection e5 with ea _ ec
          injection ea with ea
          injection ea with ea
          subst ea ec
          obtain ⟨q4, c4⟩ : ∃ q, w4.cell? ⟨g, i, none⟩ = some q := ⟨_, by have := hc4 0 (by omega); rw [Nat.mul_one] at this; exact this⟩
          have f4 := hf4 i
          have OS := Lib.hid (own_set (u := u) (i := i) O4.out HL.out (by omega))
          have KS : Hid (Keep (fun j => (Value.slice (some ⟨g, 0, none⟩) n c).ownBlock = some j) wo (w4.setCell ⟨g, i, none⟩ (.int .i64 u))) := Lib.hid ((KP.out.ext x4).setCell (p := ⟨g, i, none⟩) rfl _)
          have HT2 : Hid ((l'.set i u).take (i + 1) = (l.take (j + 1)).filter (fun z => !p z)) := Lib.hid (by
            rw [FN.out, ← HT.out]
            rw [take_next (by rw [List.length_set, HL.out]; omega)]
            rw [List.take_set_of_le (Nat.le_refl _)]
            congr 2
            rw [List.getD_eq_getElem?_getD, List.getElem?_set, if_pos rfl, if_pos (by rw [HL.out]; omega)]; rfl)
          have HD2 : Hid (∀ q, j + 1 ≤ q → (l'.set i u).getD q 0 = l.getD q 0) := Lib.hid (fun q hq => by
            rw [← HD.out q (by omega), List.getD_eq_getElem?_getD, List.getD_eq_getElem?_getD, List.getElem?_set, if_neg (by omega)])
          clear hc4 hf4 x4 C
          go_wp2_with fail
          go_roundw
          case rel => exact ⟨i + 1, j + 1, l'.set i u, by omega, by omega, by go_num, by go_num, by rw [List.length_set]; exact HL.out, HT2.out, HD2.out, OS.out, KS.out⟩
          case measure => simp [intOf]; omega
      · obtain rfl : j = n := by omega
        have TA : Hid (l'.take i = l.filter (fun z => !p z)) := Lib.hid (by rw [HT.out]; rw [List.take_of_length_le (by rw [HN.out]; exact Nat.le_refl _)])
        have FL : Hid ((l.filter (fun z => !p z)).length = i) := Lib.hid (by rw [← TA.out, List.length_take, HL.out]; omega)
        have iI : (i : Int) ≤ (j : Int) := by omega
        have iC : (i : Int) ≤ (c : Int) := by omega
        have OL : Hid (∀ q, q < j → wr.cell? ⟨g, q, none⟩ = some (.int .i64 (l'.getD q 0)) ∧ wr.frozen? ⟨g, q, none⟩ = false ∧ g < wr.heap.size) := Lib.hid (fun q hq => by
          obtain ⟨g5, cp5, e5, _, _, hg4, hc4, hf4, _⟩ := O.out.lt q hq
          injection e5 with ea _ ec
          injection ea with ea
          injection ea with ea
          subst ea ec
          have := hc4 0 (by omega)
          rw [Nat.mul_one] at this
          exact ⟨this, hf4 q, hg4⟩)
        have hcl := run_clear_slice (P := Tryz.prog) wr 25 3 0 (.int .i64 0) Tryz.underlying25 (fun _ => by kernel_rfl) rfl rfl g i (j - i) (c - i) (by omega) (fun q hq => by rw [(OL.out (i + q) (by omega)).1]; rfl) (fun q hq => (OL.out (i + q) (by omega)).2.1)
        have KC := Lib.hid (keep_setCells g (List.replicate (j - i) (Value.int .i64 0)) i wr)
        have RW : Hid (IntsAt (wr.setCells g i (List.replicate (j - i) (Value.int .i64 0))) (.slice (some ⟨g, 0, none⟩) (l.filter (fun z => !p z)).length c) (l.filter (fun z => !p z))) := Lib.hid ⟨some ⟨g, 0, none⟩, c, rfl, by rw [FL.out]; omega, by omega, fun q hq => ⟨g, 0, rfl, Nat.lt_of_lt_of_le (OL.out i hij).2.2 KC.out.size, fun jj hjj => by
          obtain rfl : jj = 0 := by omega
          rw [FL.out] at hq
          rw [show 0 + q * 1 + 0 = q by omega, World.cell?_setCells_out g _ _ _ _ (fun _ _ => .inl hq), (OL.out q (by omega)).1, ← TA.out]
          rw [List.getD_eq_getElem?_getD, List.getD_eq_getElem?_getD, List.getElem?_take_of_lt hq]⟩⟩
        have KE : Hid (Keep (fun j_1 => (Value.slice (some ⟨g, 0, none⟩) j c).ownBlock = some j_1) w (wr.setCells g i (List.replicate (j - i) (Value.int .i64 0)))) := Lib.hid (((Keep.of_ext X2.out _).trans KP.out).trans (KC.out.mono (fun q hq => by subst hq; rfl)))
        clear OL KC
        generalize wr.setCells g i (List.replicate (j - i) (Value.int .i64 0)) = wz at *
        go_wp2_with fail
        go_ret
        exact ⟨⟨some ⟨g, 0, none⟩, c, by rw [FL.out]; rfl, RW.out, fun j hj => hj⟩, KE.out⟩
set_option maxHeartbeats 1000000 in
theorem mgrey1 (h : M w F m S) {b : Nat} (hb : Blk w b 41 #[.pointer (some ⟨m, 0, none⟩)]) (i : Int) : Calls Tryz.prog 92 #[.int .i64 i, .pointer (some ⟨b, 0, none⟩)] w fun e w' => e = .returned (.bool (!decide (S.colour i = 1))) ∧ Ext w w' := by
  obtain ⟨bt, sb, C⟩ := h.cl
  have c0 := C.c0
  have lt := C.lt
  have C1 := Lib.hid (fun W [IsExt w W] => C.colour W i)
  obtain ⟨q1, q2, q3⟩ := hb.rules
  clear h C hb
  generalize S.colour i = c at *
  by_cases hc : c = 1
  · subst hc
    go_enter Tryz.func92, Tryz.ntmps92
    go_wp2_with (first | (go_at_call 170; refine (C1.out _).mono ?_; rintro e w2 ⟨rfl, x2⟩; obtain ⟨y, rfl⟩ := x2))
    go_ret
    exact ⟨rfl, is_ext _ _⟩
  · have e : (c != 1) = true := by simp [hc]
    have E : Hid (!decide (c = 1)) := Lib.hid (by simp [hc])
    clear hc
    go_enter Tryz.func92, Tryz.ntmps92
    go_wp2_with (first | (go_at_call 170; refine (C1.out _).mono ?_; rintro e w2 ⟨rfl, x2⟩; obtain ⟨y, rfl⟩ := x2))
    go_ret
    exact ⟨ret_bool E.out.symm, is_ext _ _⟩
set_option maxRecDepth 100000 in
set_option maxHeartbeats 1000000 in
theorem mgrey (h : M w F m S) : Calls Tryz.prog 64 #[.pointer (some ⟨m, 0, none⟩)] w fun e w' => (∃ A c, e = .returned (.slice A S.greys.length c) ∧ IntsAt w' (.slice A S.greys.length c) S.greys ∧ ∀ j, (Value.slice A S.greys.length c).ownBlock = some j → w.heap.size ≤ j) ∧ Ext w w' := by
  have HM := Lib.hid h
  have HL := Lib.hid h.lt
  have wl := h.wf.len
  have wl2 := h.wf.last
  have EG : Hid (S.greys = S.places.filter (fun z => !(!decide (S.colour z = 1)))) := Lib.hid (by unfold MS.greys; congr 1; funext z; simp)
  have PL := Lib.hid (MS.placesTo_len S S.L.length)
  clear h
  go_enter Tryz.func64, Tryz.ntmps64
  go_upto_region 1 with (fail)
  refine wp_name (fun W1 hW => ?_)
  have B1 := Lib.hid (Blk.new' hW)
  have X1 := Lib.hid ((Ext.refl w).alloc' hW)
  clear hW
  have h1 := HM.out.ext X1.out
  obtain ⟨bt, sb, C⟩ := h1.cl
  have c0 := C.c0
  have lt := C.lt
  obtain ⟨q1, q2, q3⟩ := B1.out.rules
  have C1 := Lib.hid (fun W [IsExt W1 W] => C.places W)
  clear C h1
  go_wp2_with fail
  refine calls_name (fun W hW => ?_)
  have hx : IsExt W1 W := ⟨by rw [hW]; exact is_ext _ _⟩
  clear hW
  refine (C1.out W).mono ?_
  rintro e w3 ⟨A, c, rfl, o, x3⟩
  have X3 := Lib.hid (hx.out.trans x3)
  have HS := Lib.hid hx.out.below.size
  have O := Lib.hid o
  have D := Lib.hid (delI (p := fun z => !decide (S.colour z = 1)) o (by unfold MS.places; have := PL.out; omega) 92 (fun _ _ => by kernel_rfl) (.pointer (some ⟨w.heap.size, 0, none⟩)) (fun i hi w' K => by
    have NF : ∀ j, (Value.slice A S.places.length c).ownBlock = some j → ¬ F j ∧ j ≠ w.heap.size := fun j hj => by
      have h1 := (o.own.block hj).1
      have h2 := HS.out
      have h3 := B1.out.lt
      exact ⟨fun hf => by have := HL.out j hf; omega, by omega⟩
    exact mgrey1 (((HM.out.ext X1.out).ext X3.out).afar K (fun j hj => (NF j hj).1)) ((B1.out.ext X3.out).keep K (fun hj => (NF _ hj).2 rfl)) _))
  rw [← EG.out] at D
  clear hx x3 o C1 c0 lt q1 q2 q3
  go_wp2_with fail
  refine D.out.mono ?_
  rintro e w4 ⟨⟨A4, c4, rfl, r4, b4⟩, k4⟩
  have R4 := Lib.hid r4
  have B4 : Hid (∀ j, (Value.slice A4 S.greys.length c4).ownBlock = some j → w.heap.size ≤ j) := Lib.hid (fun j hj => by
    have h1 := (O.out.own.block (b4 j hj)).1
    have h2 := HS.out
    have h3 := X1.out.below.size
    omega)
  clear b4
  have X4 : Hid (Ext w w4) := Lib.hid (Ext.of_below (Keep.below (X1.out.trans X3.out).below k4 (X1.out.trans X3.out).below.size (fun j hj e => by
    have h1 := (O.out.own.block e).1
    have h2 := HS.out
    have h3 := X1.out.below.size
    omega)))
  clear r4 k4 D
  go_wp2_with fail
  go_ret
  exact ⟨⟨A4, c4, rfl, R4.out, B4.out⟩, X4.out⟩
end
end Go.Proofs.YtjpalcejmloocaaGreat.World
