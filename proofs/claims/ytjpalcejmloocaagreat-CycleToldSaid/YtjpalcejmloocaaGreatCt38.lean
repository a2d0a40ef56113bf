/-
  Cyc11, as one text (a claim has at most 60 files).
-/
import Derived.Test.YtjpalcejmloocaaGreatCt37
namespace Go.Proofs.YtjpalcejmloocaaGreat.World
open Go.RowKit Go.Proofs.YtjpalcejmloocaaGreat.Plain
set_option linter.unusedVariables false
attribute [local go_sem ↓] Go.wp_at_zero Go.wp_at_succ
/-- a scope whose gotos lead forward alone -/
theorem wp_scope_on {P : Program} {a : Act} {w : Go.World} {Q : Exit → Act → Go.World → Prop} {c rest : Code} (l : Nat) (hf : findLabel c l = some rest)
    (h : ∀ J : Act → Go.World → Prop, (∀ a w, rest.wp P (Exit.noGoto Q) a w → J a w) → c.wp P (Exit.jump l J Q) a w) : (Code.scope c).wp P Q a w :=
  wp_scope_jumps l (fun a w => rest.wp P (Exit.noGoto Q) a w) (fun _ _ => 0) hf (h _ (fun _ _ h => h)) (fun a w h => wp_mono h (fun e a' w' h' => by
    cases e <;> first | exact h' | exact h'.elim))
section
variable {w w' w2 : World} {F F' F2 : Nat → Prop} {m : Nat} {S S' : MS} {X : MX}
/-- its list turned: a row in the same block -/
theorem MemAt.setLi {v : Value} {l : List Int} (h : MemAt w F m S X) (hv : IntsAt w v l) (hb : ∀ k, v.ownBlock = some k → X.li.ownBlock = some k) : MemAt (w.setCell ⟨m, 14, none⟩ v) F m { S with lst := l } { X with li := v } ∧ Keep F w (w.setCell ⟨m, 14, none⟩ v) := by
  have K : Keep (· = m) w (w.setCell ⟨m, 14, none⟩ v) := (Keep.refl (· = m) w).setCell (p := ⟨m, 14, none⟩) rfl _
  have kt : KT [56] w (w.setCell ⟨m, 14, none⟩ v) := K.mono (fun j e => by subst e; exact ⟨_, _, List.mem_singleton.2 rfl, h.bm⟩)
  have bb := h.bm.set 14 v
  have ty : Typ w v 3 := fun k hk => h.lT k (hb k hk)
  have t := h.ts.kt kt (by decide) (by decide) (by decide) (by decide) (by decide)
  exact ⟨⟨⟨t.bt, t.bF, t.L, t.LF, t.fs, t.fF, t.ap, t.dead, t.dF, t.col, t.colF⟩, bb, h.mF, fun j hj => Nat.lt_of_lt_of_le (h.lt j hj) K.size, h.wf.same rfl rfl rfl rfl, h.R.kt kt (by decide) (by decide) (by decide), h.rF, h.ac, stk_kt h.st kt (by decide), h.sF, Row.kt hv ty kt (by decide), ⟨fun k hk => h.lF.1 k (hb k hk), fun k h1 h2 => h.lF.2.1 k h1 (hb k h2), fun k h1 h2 => h.lF.2.2.1 k h1 (hb k h2), fun k h1 h2 => h.lF.2.2.2 k h1 (hb k h2)⟩, ty.kt kt (by decide)⟩, K.mono (fun j e => by subst e; exact h.mF)⟩
set_option maxRecDepth 100000 in
set_option maxHeartbeats 4000000 in
theorem munit0 (h : M w F m S) (hp : S.phase = 0) (hs : S.smallB = true) : Calls Tryz.prog 37 #[.pointer (some ⟨m, 0, none⟩)] w fun e w' => e = .returned (.int .i64 0) ∧ M w' F m ({ S with phase := 1 } : MS).roots ∧ Keep F w w' := by
  obtain ⟨X, hX⟩ := h
  have C := hX.clx
  have lt := C.lt
  have f12 := C.fz 12
  have c12 : w.cell? ⟨m, 12, none⟩ = some (.int .i64 S.phase) := hX.bm.cell 12
  rw [hp] at c12
  obtain ⟨P1, P2⟩ := hX.setPhase 1
  have MR := Lib.hid (mroots (S := { S with phase := 1 }) ⟨X, P1⟩ hs)
  have KP := Lib.hid P2
  clear C hX P1 P2 hp hs
  go_enter Tryz.func37, Tryz.ntmps37
  go_big_wp2_with fail
  refine wp_scope_on 0 rfl (fun J hJ => ?_)
  have HJ := Lib.hid hJ
  clear hJ
  go_big_wp2_with fail
  refine wp_goto ?_
  refine ⟨rfl, HJ.out _ _ ?_⟩
  clear HJ
  go_big_wp2_with fail
  refine MR.out.mono ?_
  rintro e w2 ⟨rfl, m2, k2⟩
  have M2 := Lib.hid m2
  have K2 := Lib.hid (KP.out.trans k2)
  clear MR KP m2 k2 lt f12 c12
  go_big_wp2_with fail
  unfold Exit.noGoto
  dsimp only
  go_ret
  exact ⟨rfl, M2.out, K2.out⟩
/-- a thing's turn in the sweep -/
theorem MS.sweep_parts {S S' : MS} (h : S.sweepO = some S') : (S.lst = [] ∧ S' = { S with phase := 0 }) ∨ ∃ i l, S.lst = i :: l ∧ (0 ≤ i ∧ i < S.L.length) ∧ ((l = [] ∧ S' = { S.paint i 0 with lst := l, phase := 0 }) ∨ (l ≠ [] ∧ S' = { S.paint i 0 with lst := l })) := by
  unfold MS.sweepO at h
  cases hl : S.lst with
  | nil =>
    rw [hl] at h
    injection h with h
    exact .inl ⟨rfl, h.symm⟩
  | cons i l =>
    rw [hl] at h
    simp only at h
    by_cases hd : 0 ≤ i ∧ i < S.L.length
    · rw [decide_eq_true hd, if_pos rfl] at h
      injection h with h
      refine .inr ⟨i, l, rfl, hd, ?_⟩
      by_cases h0 : l = []
      · rw [if_pos h0] at h; exact .inl ⟨h0, h.symm⟩
      · rw [if_neg h0] at h; exact .inr ⟨h0, h.symm⟩
    · rw [decide_eq_false hd, if_neg (by decide)] at h
      cases h
set_option maxRecDepth 100000 in
set_option maxHeartbeats 4000000 in
theorem munit2 (h : M w F m S) (hp : S.phase = 2) (hs : S.sweepO = some S') : Calls Tryz.prog 37 #[.pointer (some ⟨m, 0, none⟩)] w fun e w' => e = .returned (.int .i64 0) ∧ M w' F m S' ∧ Keep F w w' := by
  obtain ⟨X, hX⟩ := h
  have C := hX.clx
  have lt := C.lt
  have f12 := C.fz 12
  have f14 := C.fz 14
  have c12 : w.cell? ⟨m, 12, none⟩ = some (.int .i64 S.phase) := hX.bm.cell 12
  have c14 := C.c14
  have c0 := C.c0
  rw [hp] at c12
  have HX := Lib.hid hX
  obtain ⟨A, c, eL, n1, n2⟩ := Row.form hX.li
  have XL := Lib.hid eL
  rw [eL] at c14
  clear hp
  rcases MS.sweep_parts hs with ⟨h0, rfl⟩ | ⟨i, l, h0, hi, hS⟩
  · rw [h0] at c14
    replace c14 : w.cell? ⟨m, 14, none⟩ = some (.slice A 0 c) := c14
    obtain ⟨P1, P2⟩ := hX.setPhase 0
    have PM := Lib.hid (⟨X, P1⟩ : M _ F m _)
    have KP := Lib.hid P2
    clear C hX P1 P2 hs h0 n1 n2 eL HX XL
    go_enter Tryz.func37, Tryz.ntmps37
    go_big_wp2_with fail
    refine wp_scope_on 1 rfl (fun J hJ => ?_)
    have HJ := Lib.hid hJ
    clear hJ
    go_big_wp2_with fail
    refine wp_goto ?_
    refine ⟨rfl, HJ.out _ _ ?_⟩
    clear HJ
    go_big_wp2_with fail
    unfold Exit.noGoto
    dsimp only
    go_ret
    exact ⟨rfl, PM.out, KP.out⟩
  · have EQ := Lib.hid h0
    have IQ := Lib.hid hi
    have r0 : Row w X.li S.lst.length 1 (fun q _ => .int .i64 (S.lst.getD q 0)) := hX.li
    rw [eL, h0] at r0
    obtain ⟨b, off, eA, hb, hc⟩ := Row.at_ r0 0 (by simp)
    subst eA
    have d0 : w.cell? ⟨b, off, none⟩ = some (.int .i64 i) := by have := hc 0 (by omega); rw [Nat.zero_mul, Nat.add_zero] at this; exact this
    obtain ⟨n, hn⟩ : ∃ n, l.length = n := ⟨_, rfl⟩
    rw [h0, List.length_cons, hn] at c14 n1
    have HN := Lib.hid hn
    have hnI : (0 : Int) < ((n + 1 : Nat) : Int) := by omega
    have SW := Lib.hid (fun W [IsExt w W] => C.sweep W i IQ.out.1 IQ.out.2)
    clear hc r0 hs h0 hi hn C hX eL
    go_enter Tryz.func37, Tryz.ntmps37
    go_big_wp2_with fail
    refine wp_scope_on 1 rfl (fun J hJ => ?_)
    have HJ := Lib.hid hJ
    clear hJ
    go_big_wp2_with fail
    refine wp_goto ?_
    refine ⟨rfl, HJ.out _ _ ?_⟩
    clear HJ
    go_big_wp2_with fail
    go_still_tail 12, (by kernel_rfl)
    go_big_wp2_with fail
    refine calls_name (fun W hW => ?_)
    have hx : IsExt w W := ⟨by rw [hW]; exact is_ext _ _⟩
    clear hW
    refine (SW.out W).mono ?_
    rintro e w2 ⟨rfl, m2, k2⟩
    have M2 := Lib.hid m2
    have K2 := Lib.hid ((Keep.of_ext hx.out F).trans k2)
    clear c0 c12 c14 d0 hb hx k2 SW HX f12 f14 lt
    have C := m2.clx
    have c14 := C.c14
    have lt := C.lt
    have f14 := C.fz 14
    rw [XL.out, EQ.out, List.length_cons, HN.out] at c14
    clear C m2
    go_upto_region 25 with (fail)
    refine wp_name (fun W3 hW => ?_)
    obtain ⟨A2, hA2⟩ : ∃ A2, (if c = 1 then some (⟨b, off, none⟩ : Addr) else some ⟨b, off + 1, none⟩) = A2 := ⟨_, rfl⟩
    rw [hA2] at hW
    have RL : Row w2 (.slice (some ⟨b, off, none⟩) (n + 1) c) (n + 1) 1 (fun q _ => .int .i64 ((i :: l).getD q 0)) := by
      have q : Row w2 X.li S.lst.length 1 (fun q _ => .int .i64 (S.lst.getD q 0)) := M2.out.li
      rw [XL.out, EQ.out, List.length_cons, HN.out] at q
      exact q
    have VR : IntsAt w2 (.slice A2 n (c - 1)) l := ⟨A2, c - 1, by rw [HN.out], by rw [HN.out]; omega, by omega, fun q hq => by
      rw [HN.out] at hq
      obtain ⟨b', off', e, h1, h2⟩ := RL.at_ (q + 1) (by omega)
      injection e with e
      injection e with e1 e2
      subst e1 e2
      refine ⟨b, off + 1, by rw [← hA2, if_neg (by omega)], h1, fun j hj => ?_⟩
      have := h2 j hj
      rw [show off + (q + 1) * 1 + j = off + 1 + q * 1 + j by omega] at this
      exact this⟩
    have VB : ∀ k, (Value.slice A2 n (c - 1)).ownBlock = some k → X.li.ownBlock = some k := fun k hk => by
      rw [XL.out]
      rw [← hA2] at hk
      by_cases e : c = 1
      · rw [if_pos e] at hk; exact hk
      · rw [if_neg e] at hk; exact hk
    obtain ⟨P1, P2⟩ := M2.out.setLi VR VB
    rw [← hW] at P1 P2
    have M3 := Lib.hid P1
    have K3 := Lib.hid (K2.out.trans P2)
    have C := P1.clx
    have c14 := C.c14
    have lt := C.lt
    have f12 := C.fz 12
    have c12 := P1.bm.cell 12
    unfold cellsM at c12
    simp only [List.getElem?_toArray, List.getElem?_cons_zero, List.getElem?_cons_succ] at c12
    replace c14 : W3.cell? ⟨m, 14, none⟩ = some (.slice A2 n (c - 1)) := c14
    clear C VB VR RL hA2 hW P1 P2 M2 K2
    rcases hS with ⟨hl, rfl⟩ | ⟨hl, rfl⟩
    · subst hl
      have n0 : n = 0 := HN.out.symm
      subst n0
      obtain ⟨P1, P2⟩ := M3.out.setPhase 0
      have PM := Lib.hid (⟨_, P1⟩ : M _ F m _)
      have KP := Lib.hid (K3.out.trans P2)
      clear P1 P2 M3 K3
      go_big_wp2_with fail
      all_goals
        go_ret
        exact ⟨rfl, PM.out, KP.out⟩
    · have n0 : n ≠ 0 := fun q => hl (List.eq_nil_of_length_eq_zero (by rw [HN.out]; exact q))
      have e1 : ((n : Int) == 0) = false := beq_eq_false_iff_ne.2 (by omega)
      clear hl n0
      go_big_wp2_with fail
      all_goals
        go_ret
        exact ⟨rfl, ⟨_, M3.out⟩, K3.out⟩
theorem MS.pushs_cons (S : MS) (i : Int) (l : List Int) : S.pushs (i :: l) = if S.stk.length < S.most then (S.pushG i).pushs l else S.pushG i := by
  show (if _ then _ else _) = _
  unfold MS.pushG
  by_cases h : S.stk.length < S.most
  · rw [if_pos h, if_pos h, if_pos h]
  · rw [if_neg h, if_neg h, if_neg h]
theorem drop_next {l : List Int} {k : Nat} (h : k < l.length) : l.drop k = l.getD k 0 :: l.drop (k + 1) := by
  rw [List.drop_eq_getElem_cons h, List.getD_eq_getElem?_getD, List.getElem?_eq_getElem h]; rfl
set_option maxRecDepth 100000 in
set_option maxHeartbeats 8000000 in
theorem munit1 (h : M w F m S) (hp0 : S.phase ≠ 0) (hp2 : S.phase ≠ 2) {n : Nat} {dd : Int} (he : (if S.stk = [] then (if S.over then some (({ S with over := false } : MS).pushs ({ S with over := false } : MS).greys, 0) else MS.endO n S) else some (S.popG.scanG S.topG, 0)) = some (S', dd)) : Calls Tryz.prog 37 #[.pointer (some ⟨m, 0, none⟩)] w fun e w' => e = .returned (.int .i64 dd) ∧ Goes F m S' w w' := by
  have HM := Lib.hid h
  obtain ⟨bt, sb, C⟩ := h.cl
  have c12 := C.c12
  have c13 := C.c13
  have lt := C.lt
  obtain ⟨ph, hph⟩ : ∃ ph, S.phase = ph := ⟨_, rfl⟩
  rw [hph] at c12 hp0 hp2
  have p0 : (ph == 0) = false := beq_eq_false_iff_ne.2 hp0
  have p2 : (ph == 2) = false := beq_eq_false_iff_ne.2 hp2
  clear hp0 hp2 hph
  by_cases hs : S.stk = []
  · rw [if_pos hs] at he
    have C1 := Lib.hid (fun W [IsExt w W] => C.pop0 W hs)
    have C2 := Lib.hid (fun W [IsExt w W] => C.over W)
    have C3 := Lib.hid (fun W [IsExt w W] => C.clear W)
    clear C hs
    cases ho : S.over with
    | false =>
      rw [ho, if_neg (by decide)] at he
      rw [ho] at C2
      have ME := Lib.hid (fun W (x : Ext w W) => mend (HM.out.ext x) he)
      clear he ho h C3
      go_enter Tryz.func37, Tryz.ntmps37
      go_big_wp2_with fail
      refine wp_scope_on 0 rfl (fun J _ => ?_)
      go_big_wp2_with (first | (go_at_call 59; refine (C1.out _).mono ?_; rintro e w2 ⟨rfl, x2⟩; obtain ⟨y, rfl⟩ := x2) | (go_at_call 61; refine (C2.out _).mono ?_; rintro e w2 ⟨rfl, x2⟩; obtain ⟨y, rfl⟩ := x2))
      refine calls_name (fun W hW => ?_)
      have hx : IsExt w W := ⟨by rw [hW]; exact is_ext _ _⟩
      clear hW
      refine (ME.out W hx.out).mono ?_
      rintro e w2 ⟨rfl, g2⟩
      have G2 := Lib.hid (Goes.after hx.out g2)
      clear g2 hx ME C1 C2 c12 c13 lt
      go_big_wp2_with fail
      unfold Exit.jump
      dsimp only
      go_ret
      exact ⟨rfl, G2.out⟩
    | true =>
      rw [ho, if_pos rfl] at he
      injection he with he
      injection he with e1 e2
      subst e2
      have EF := Lib.hid e1
      rw [ho] at C2
      clear ho h e1
      go_enter Tryz.func37, Tryz.ntmps37
      go_big_wp2_with fail
      refine wp_scope_on 0 rfl (fun J _ => ?_)
      go_big_wp2_with (first | (go_at_call 59; refine (C1.out _).mono ?_; rintro e w2 ⟨rfl, x2⟩; obtain ⟨y, rfl⟩ := x2) | (go_at_call 61; refine (C2.out _).mono ?_; rintro e w2 ⟨rfl, x2⟩; obtain ⟨y, rfl⟩ := x2))
      refine calls_name (fun W hW => ?_)
      have hx : IsExt w W := ⟨by rw [hW]; exact is_ext _ _⟩
      clear hW
      refine (C3.out W).mono ?_
      rintro e w2 ⟨rfl, m2, k2⟩
      have M2 := Lib.hid m2
      have K2 := Lib.hid ((Keep.of_ext hx.out F).trans k2)
      clear m2 k2 hx C1 C2 C3 c12 c13 lt HM
      generalize ({ S with over := false } : MS) = S1 at *
      have MG := Lib.hid (mgrey M2.out)
      have HL := Lib.hid M2.out.lt
      go_big_wp2_with fail
      refine MG.out.mono ?_
      rintro e w3 ⟨⟨A, c, rfl, r3, b3⟩, x3⟩
      have M3 := Lib.hid (M2.out.ext x3)
      have K3 := Lib.hid (K2.out.ext x3)
      have NF : Hid (∀ j, (Value.slice A S1.greys.length c).ownBlock = some j → ¬ F j) := Lib.hid (fun j hj hf => by
        have h1 := b3 j hj
        have h2 := HL.out j hf
        omega)
      have RW : Hid (Row w3 (.slice A S1.greys.length c) S1.greys.length 1 (fun i _ => .int .i64 (S1.greys.getD i 0))) := Lib.hid r3
      clear r3 b3 x3 MG M2 K2 HL
      generalize S1.greys = l at *
      generalize hnl : l.length = n3 at *
      have HNL := Lib.hid hnl
      clear hnl
      have DN : Hid (∀ k, k < n3 → l.drop k = l.getD k 0 :: l.drop (k + 1)) := Lib.hid (fun k h => drop_next (by rw [HNL.out]; exact h))
      have DE : Hid (l.drop n3 = []) := Lib.hid (by rw [← HNL.out]; exact List.drop_length ..)
      have nB : n3 ≤ 9223372036854775807 := by
        obtain ⟨_, _, e, l1, l2⟩ := Row.form RW.out
        omega
      go_big_wp2_with fail
      rename World => wo
      go_loopw [58] (fun iv wq => ∃ k : Nat, k ≤ n3 ∧ iv = .int .i64 k ∧ ∃ Sq, MS.pushs Sq (l.drop k) = S' ∧ M wq F m Sq ∧ Keep F wo wq) (fun iv _ => n3 - (intOf iv).toNat)
      case atStart => exact ⟨0, by omega, rfl, S1, by rw [List.drop_zero]; exact EF.out, M3.out, Keep.refl _ _⟩
      case round =>
        clear M3
        obtain ⟨k, hk, rfl, Sq, hq, hm, hkp⟩ := hrel
        have KQ := Lib.hid hkp
        have HM := Lib.hid hm
        clear hkp
        by_cases hlt : k < n3
        · have kI : (k : Int) < (n3 : Int) := by omega
          obtain ⟨b, off, rfl, hb, hc⟩ := Row.at_ (Row.far RW.out KQ.out NF.out) k hlt
          have d0 : wr.cell? ⟨b, off + k, none⟩ = some (.int .i64 (l.getD k 0)) := by have := hc 0 (by omega); rw [Nat.mul_one] at this; exact this
          rw [DN.out k hlt, MS.pushs_cons] at hq
          obtain ⟨bt4, sb4, C⟩ := hm.cl
          have c13 := C.c13
          have lt := C.lt
          clear hc hm
          generalize l.getD k 0 = z at *
          have CP := Lib.hid (fun W [IsExt wr W] => C.push W z)
          clear C
          by_cases hpu : Sq.stk.length < Sq.most
          · rw [if_pos hpu] at hq
            rw [decide_eq_true hpu] at CP
            have HQ := Lib.hid hq
            clear hq hpu
            go_big_wp2_with fail
            refine calls_name (fun W hW => ?_)
            have hx : IsExt wr W := ⟨by rw [hW]; exact is_ext _ _⟩
            clear hW
            refine (CP.out W).mono ?_
            rintro e w5 ⟨rfl, m5, k5⟩
            have M5 := Lib.hid m5
            have K5 := Lib.hid (KQ.out.trans ((Keep.of_ext hx.out F).trans k5))
            clear m5 k5 hx CP c13 lt d0 hb HM KQ
            go_big_wp2_with fail
            go_roundw
            case rel => exact ⟨k + 1, by omega, by go_num, _, HQ.out, M5.out, K5.out⟩
            case measure => simp [intOf] <;> omega
          · rw [if_neg hpu] at hq
            rw [decide_eq_false hpu] at CP
            have HQ := Lib.hid hq
            clear hq hpu
            go_big_wp2_with fail
            refine calls_name (fun W hW => ?_)
            have hx : IsExt wr W := ⟨by rw [hW]; exact is_ext _ _⟩
            clear hW
            refine (CP.out W).mono ?_
            rintro e w5 ⟨rfl, m5, k5⟩
            have M5 := Lib.hid m5
            have K5 := Lib.hid (K3.out.trans (KQ.out.trans ((Keep.of_ext hx.out F).trans k5)))
            clear m5 k5 hx CP c13 lt d0 hb HM KQ
            go_big_wp2_with fail
            unfold Exit.jump
            dsimp only
            go_ret
            exact ⟨rfl, F, by rw [← HQ.out]; exact M5.out, Mov.same K5.out⟩
        · obtain rfl : k = n3 := by omega
          rw [DE.out] at hq
          have HQ : Hid (Sq = S') := Lib.hid hq
          clear hq hm
          go_big_wp2_with fail
          unfold Exit.jump
          dsimp only
          go_ret
          exact ⟨rfl, F, by rw [← HQ.out]; exact HM.out, Mov.same (K3.out.trans KQ.out)⟩
  · rw [if_neg hs] at he
    injection he with he
    injection he with e1 e2
    subst e2
    have EF := Lib.hid e1
    have C1 := Lib.hid (fun W [IsExt w W] => C.pop W hs)
    have CS := Lib.hid (fun W S (x : M W F m S) i (hi : S.has i = true) => mscan x i hi)
    clear C hs e1 h
    generalize S.topG = z at *
    generalize S.popG = S2 at *
    go_enter Tryz.func37, Tryz.ntmps37
    go_big_wp2_with fail
    refine wp_scope_on 0 rfl (fun J _ => ?_)
    go_big_wp2_with fail
    refine calls_name (fun W hW => ?_)
    have hx : IsExt w W := ⟨by rw [hW]; exact is_ext _ _⟩
    clear hW
    refine (C1.out W).mono ?_
    rintro e w3 ⟨rfl, m3, k3⟩
    have M3 := Lib.hid m3
    have K3 := Lib.hid ((Keep.of_ext hx.out F).trans k3)
    clear c13 c12 lt k3 hx C1 HM
    obtain ⟨bt3, R⟩ := m3.rd
    obtain ⟨bt4, sb3, C⟩ := m3.cl
    obtain rfl := R.one C
    have c0 := R.c0
    have lt := R.lt
    have C1 := Lib.hid (fun W [IsExt w3 W] => R.has W z)
    have C2 := Lib.hid (fun W [IsExt w3 W] => C.colour W z)
    have EG : Hid (S2.scanG z = if S2.has z && decide (S2.colour z = 1) then S2.scan z else S2) := Lib.hid rfl
    have CZ := Lib.hid (fun W (x : Ext w3 W) hz => CS.out W S2 (M3.out.ext x) z hz)
    clear m3 R C CS
    cases hz : S2.has z with
    | false =>
      rw [hz, Bool.false_and, if_neg (by decide)] at EG
      rw [hz] at C1
      clear hz CZ C2
      go_big_wp2_with (first | (go_at_call 174; refine (C1.out _).mono ?_; rintro e w2 ⟨rfl, x2⟩; obtain ⟨y, rfl⟩ := x2))
      unfold Exit.jump
      dsimp only
      go_ret
      exact ⟨rfl, F, by rw [← EF.out, EG.out]; exact M3.out.ext (is_ext _ _), Mov.same (K3.out.ext (is_ext _ _))⟩
    | true =>
      rw [hz, Bool.true_and] at EG
      rw [hz] at C1
      replace CZ := Lib.hid (fun W (x : Ext w3 W) => CZ.out W x hz)
      clear hz
      by_cases hc : S2.colour z = 1
      · rw [decide_eq_true hc, if_pos rfl] at EG
        rw [hc] at C2
        clear hc
        go_big_wp2_with (first | (go_at_call 174; refine (C1.out _).mono ?_; rintro e w2 ⟨rfl, x2⟩; obtain ⟨y, rfl⟩ := x2) | (go_at_call 170; refine (C2.out _).mono ?_; rintro e w2 ⟨rfl, x2⟩; obtain ⟨y, rfl⟩ := x2))
        refine calls_name (fun W hW => ?_)
        have hx : IsExt w3 W := ⟨by rw [hW]; exact is_ext _ _⟩
        clear hW
        refine (CZ.out W hx.out).mono ?_
        rintro e w5 ⟨rfl, m5, k5⟩
        have M5 := Lib.hid m5
        have K5 := Lib.hid (K3.out.trans ((Keep.of_ext hx.out F).trans k5))
        clear m5 k5 hx c0 lt C1 C2 CZ M3 K3
        go_big_wp2_with fail
        unfold Exit.jump
        dsimp only
        go_ret
        exact ⟨rfl, F, by rw [← EF.out, EG.out]; exact M5.out, Mov.same K5.out⟩
      · rw [decide_eq_false hc, if_neg (by decide)] at EG
        have e2 : (S2.colour z == 1) = false := beq_eq_false_iff_ne.2 hc
        clear hc CZ
        generalize S2.colour z = cz at *
        go_big_wp2_with (first | (go_at_call 174; refine (C1.out _).mono ?_; rintro e w2 ⟨rfl, x2⟩; obtain ⟨y, rfl⟩ := x2) | (go_at_call 170; refine (C2.out _).mono ?_; rintro e w2 ⟨rfl, x2⟩; obtain ⟨y, rfl⟩ := x2))
        unfold Exit.jump
        dsimp only
        go_ret
        exact ⟨rfl, F, by rw [← EF.out, EG.out]; exact M3.out.ext (is_ext _ _), Mov.same (K3.out.ext (is_ext _ _))⟩
end
end Go.Proofs.YtjpalcejmloocaaGreat.World
