/-
  Cyc6, as one text (a claim has at most 60 files).
-/
import Derived.Test.YtjpalcejmloocaaGreatCt27
import Derived.Test.YtjpalcejmloocaaGreatCt31
namespace Go.Proofs.YtjpalcejmloocaaGreat.World
open Go.RowKit Go.Proofs.YtjpalcejmloocaaGreat.Plain
set_option linter.unusedVariables false
attribute [local go_sem ↓] Go.wp_at_zero Go.wp_at_succ
/-- so many rounds are left -/
def AllJ (w : World) (F : Nat → Prop) (m : Nat) (S' : MS) (wr : World) (k : Nat) : Prop := ∃ S1, MS.allO k S1 = some S' ∧ M wr F m S1 ∧ Keep F w wr
theorem allO_succ (k : Nat) (S S' : MS) (h : MS.allO (k + 1) S = some S') : (S.stk = [] ∧ S.greys = [] ∧ S' = { S with over := false }) ∨ (S.stk = [] ∧ S.greys ≠ [] ∧ MS.allO k (S.scans S.greys) = some S') ∨ (S.stk ≠ [] ∧ MS.allO k (S.popG.scanG S.topG) = some S') := by
  unfold MS.allO at h
  by_cases h1 : S.stk = []
  · rw [if_pos h1] at h
    by_cases h2 : S.greys = []
    · rw [if_pos h2] at h
      injection h with h
      exact .inl ⟨h1, h2, h.symm⟩
    · rw [if_neg h2] at h
      exact .inr (.inl ⟨h1, h2, h⟩)
  · rw [if_neg h1] at h
    exact .inr (.inr ⟨h1, h⟩)
section
variable {w w' w2 : World} {F F' F2 : Nat → Prop} {m : Nat} {S S' : MS} {X : MX}
set_option maxRecDepth 100000 in
set_option maxHeartbeats 4000000 in
theorem mall (h : M w F m S) {n : Nat} (he : MS.allO n S = some S') : Calls Tryz.prog 89 #[.pointer (some ⟨m, 0, none⟩)] w fun e w' => e = .returned (.tuple #[]) ∧ M w' F m S' ∧ Keep F w w' := by
  have CS := Lib.hid (fun W S (x : M W F m S) i (hi : S.has i = true) => mscan x i hi)
  have CG := Lib.hid (fun W S (x : M W F m S) => mgrey x)
  have H0 : Hid (∃ k, AllJ w F m S' w k) := Lib.hid ⟨n, S, he, h, Keep.refl _ _⟩
  clear h he
  go_enter Tryz.func89, Tryz.ntmps89
  go_wp2_with fail
  go_loopw [2] (fun lv wr => ∃ k, AllJ w F m S' wr k) (fun lv wr => minN (fun k => AllJ w F m S' wr k))
  case atStart => exact H0.out
  case round =>
    have hs := minN_spec hrel
    obtain ⟨hj, hmin⟩ := hs
    have HMIN := Lib.hid hmin
    clear hmin H0 hrel
    generalize hk : minN (fun k => AllJ w F m S' wr k) = k at *
    have HK := Lib.hid hk
    clear hk
    obtain ⟨S1, he, hm, hkp⟩ := hj
    cases k with
    | zero => exact absurd he (by unfold MS.allO; simp)
    | succ k =>
      have ND : Hid (∀ wz S2, MS.allO k S2 = some S' → M wz F m S2 → Keep F w wz → (∃ k, AllJ w F m S' wz k) ∧ minN (fun k => AllJ w F m S' wz k) < k + 1) := Lib.hid (fun wz S2 h1 h2 h3 => ⟨⟨k, S2, h1, h2, h3⟩, Nat.lt_succ_of_le ((minN_spec ⟨k, S2, h1, h2, h3⟩).2 k ⟨S2, h1, h2, h3⟩)⟩)
      clear HK HMIN
      have KP := Lib.hid hkp
      have HM := Lib.hid hm
      obtain ⟨bt, sb, C⟩ := hm.cl
      have c13 := C.c13
      have lt := C.lt
      clear hkp
      rcases allO_succ _ _ _ he with ⟨h1, h2, h3⟩ | ⟨h1, h2, h3⟩ | ⟨h1, h3⟩
      · have C1 := Lib.hid (fun W [x : IsExt wr W] => (by have q := C.len W; rw [h1] at q; exact q : Calls Tryz.prog 112 #[.pointer (some ⟨sb, 0, none⟩)] W fun e w' => e = .returned (.int .i64 0) ∧ Ext W w'))
        have G1 := Lib.hid (fun W (x : Ext wr W) => (by have q := CG.out W _ (HM.out.ext x); rw [h2] at q; exact q : Calls Tryz.prog 64 #[.pointer (some ⟨m, 0, none⟩)] W fun e w' => (∃ A c, e = .returned (.slice A 0 c) ∧ IntsAt w' (.slice A 0 c) [] ∧ ∀ j, (Value.slice A 0 c).ownBlock = some j → W.heap.size ≤ j) ∧ Ext W w'))
        have E3 := Lib.hid h3
        clear C h1 h2 h3 he hm CG CS ND
        go_wp2_with (first | (go_at_call 112; refine (C1.out _).mono ?_; rintro e w2 ⟨rfl, x2⟩; obtain ⟨y, rfl⟩ := x2))
        refine calls_name (fun W hW => ?_)
        have hx : IsExt wr W := ⟨by rw [hW]; exact is_ext _ _⟩
        clear hW
        refine (G1.out W hx.out).mono ?_
        rintro e w3 ⟨⟨A, c, rfl, _, _⟩, x3⟩
        have M3 := Lib.hid (HM.out.ext (hx.out.trans x3))
        have K3 := Lib.hid (KP.out.ext (hx.out.trans x3))
        clear c13 lt x3 hx C1 G1 HM KP
        obtain ⟨bt3, sb3, C⟩ := M3.out.cl
        have c13 := C.c13
        have lt := C.lt
        have C1 := Lib.hid (fun W [x : IsExt w3 W] => C.clear W)
        clear C
        go_wp2_with fail
        refine calls_name (fun W hW => ?_)
        have hx : IsExt w3 W := ⟨by rw [hW]; exact is_ext _ _⟩
        clear hW
        refine (C1.out W).mono ?_
        rintro e w4 ⟨rfl, m4, k4⟩
        have M4 := Lib.hid m4
        have K4 := Lib.hid (K3.out.trans ((Keep.of_ext hx.out F).trans k4))
        clear c13 lt hx m4 k4 C1
        go_wp2_with fail
        go_end0
        exact ⟨rfl, by rw [E3.out]; exact M4.out, K4.out⟩
      · have C1 := Lib.hid (fun W [x : IsExt wr W] => (by have q := C.len W; rw [h1] at q; exact q : Calls Tryz.prog 112 #[.pointer (some ⟨sb, 0, none⟩)] W fun e w' => e = .returned (.int .i64 0) ∧ Ext W w'))
        have G1 := Lib.hid (fun W (x : Ext wr W) => CG.out W _ (HM.out.ext x))
        have E3 := Lib.hid h3
        have GH := Lib.hid (fun i (hi : i ∈ S1.greys) => MS.greys_has hi)
        have hlen : S1.greys.length ≠ 0 := fun q => h2 (List.eq_nil_of_length_eq_zero q)
        clear C h1 h2 h3 he hm CG
        generalize S1.greys = l at *
        generalize hnl : l.length = n at *
        have HNL := Lib.hid hnl
        clear hnl
        have e1 : ((n : Int) == 0) = false := beq_eq_false_iff_ne.2 (by omega)
        go_wp2_with (first | (go_at_call 112; refine (C1.out _).mono ?_; rintro e w2 ⟨rfl, x2⟩; obtain ⟨y, rfl⟩ := x2))
        refine calls_name (fun W hW => ?_)
        have hx : IsExt wr W := ⟨by rw [hW]; exact is_ext _ _⟩
        clear hW
        refine (G1.out W hx.out).mono ?_
        rintro e w3 ⟨⟨A, c, rfl, r3, b3⟩, x3⟩
        have NF : Hid (∀ j, (Value.slice A n c).ownBlock = some j → ¬ F j) := Lib.hid (fun j hj hf => by
          have h1 := b3 j hj
          have h2 := HM.out.lt j hf
          have h3 := hx.out.below.size
          omega)
        have M3 := Lib.hid (HM.out.ext (hx.out.trans x3))
        have K3 := Lib.hid (KP.out.ext (hx.out.trans x3))
        have R3 := Lib.hid r3
        clear c13 lt x3 hx C1 G1 HM KP r3 b3
        have TA : Hid (l.take n = l) := Lib.hid (by rw [← HNL.out]; exact List.take_length ..)
        have TK : Hid (∀ k, k < n → l.take (k + 1) = l.take k ++ [l.getD k 0]) := Lib.hid (fun k h => take_next (by rw [HNL.out]; exact h))
        have GM : Hid (∀ k, k < n → l.getD k 0 ∈ l) := Lib.hid (fun k h => by
          rw [List.getD_eq_getElem?_getD, List.getElem?_eq_getElem (by rw [HNL.out]; exact h)]
          exact List.getElem_mem _)
        have nB : n ≤ 9223372036854775807 := by
          obtain ⟨_, _, e, l1, l2⟩ := Row.form R3.out
          rw [HNL.out] at l1
          omega
        have RW : Hid (Row w3 (.slice A n c) n 1 (fun i _ => .int .i64 (l.getD i 0))) := Lib.hid (by have := R3.out; rw [← HNL.out]; rw [← HNL.out] at this; exact this)
        clear R3
        go_wp2_with fail
        rename World => wo
        go_loopw [20] (fun iv wq => ∃ q : Nat, q ≤ n ∧ iv = .int .i64 q ∧ M wq F m (S1.scans (l.take q)) ∧ Keep F wo wq) (fun iv _ => n - (intOf iv).toNat)
        case atStart => exact ⟨0, by omega, rfl, M3.out, Keep.refl _ _⟩
        case round =>
          obtain ⟨q, hq, rfl, hm, hkp⟩ := hrel
          have KQ := Lib.hid hkp
          have HM := Lib.hid hm
          clear hkp hm
          by_cases hlt2 : q < n
          · have qI : (q : Int) < (n : Int) := by omega
            obtain ⟨b, off, rfl, hb, hc⟩ := Row.at_ (Row.far RW.out KQ.out NF.out) q hlt2
            have d0 : wr.cell? ⟨b, off + q, none⟩ = some (.int .i64 (l.getD q 0)) := by have := hc 0 (by omega); rw [Nat.mul_one] at this; exact this
            have T := Lib.hid (TK.out q hlt2)
            have HZ : Hid ((S1.scans (l.take q)).has (l.getD q 0) = true) := Lib.hid (by rw [(MS.alike_scans (l.take q) S1).has]; exact GH.out _ (GM.out q hlt2))
            clear hc
            generalize l.getD q 0 = z at *
            go_wp2_with fail
            refine calls_name (fun W hW => ?_)
            have hx : IsExt wr W := ⟨by rw [hW]; exact is_ext _ _⟩
            clear hW
            refine (CS.out W _ (HM.out.ext hx.out) z HZ.out).mono ?_
            rintro e w4 ⟨rfl, m2, k2⟩
            have M4 := Lib.hid m2
            have K4 := Lib.hid (KQ.out.trans ((Keep.of_ext hx.out F).trans k2))
            clear d0 hb hx m2 k2 HM KQ
            go_wp2_with fail
            go_roundw
            case rel => exact ⟨q + 1, by omega, by go_num, by rw [T.out, MS.scans_snoc]; exact M4.out, K4.out⟩
            case measure => simp [intOf] <;> omega
          · obtain rfl : q = n := by omega
            have q1 := HM.out
            rw [TA.out] at q1
            have NX := Lib.hid (ND.out wr _ E3.out q1 (K3.out.trans KQ.out))
            clear q1 HM KQ K3 ND RW
            go_wp2_with fail
            go_roundw
            case rel => exact NX.out.1
            case measure => exact NX.out.2
      · have C1 := Lib.hid (fun W [x : IsExt wr W] => C.len W)
        have C2 := Lib.hid (fun W [x : IsExt wr W] => C.pop W h1)
        have hlen : S1.stk.length ≠ 0 := fun q => h1 (List.eq_nil_of_length_eq_zero q)
        have E3 := Lib.hid h3
        clear C h1 h3 he hm CG
        generalize S1.stk.length = n at *
        have e1 : ((n : Int) == 0) = false := beq_eq_false_iff_ne.2 (by omega)
        generalize S1.topG = z at *
        generalize S1.popG = S2 at *
        go_wp2_with (first | (go_at_call 112; refine (C1.out _).mono ?_; rintro e w2 ⟨rfl, x2⟩; obtain ⟨y, rfl⟩ := x2))
        refine calls_name (fun W hW => ?_)
        have hx : IsExt wr W := ⟨by rw [hW]; exact is_ext _ _⟩
        clear hW
        refine (C2.out W).mono ?_
        rintro e w3 ⟨rfl, m3, k3⟩
        have M3 := Lib.hid m3
        have K3 := Lib.hid (KP.out.trans ((Keep.of_ext hx.out F).trans k3))
        clear c13 lt k3 hx C1 C2 HM KP
        obtain ⟨bt3, R⟩ := m3.rd
        obtain ⟨bt4, sb3, C⟩ := m3.cl
        obtain rfl := R.one C
        have c0 := R.c0
        have lt := R.lt
        have C1 := Lib.hid (fun W [IsExt w3 W] => R.has W z)
        have C2 := Lib.hid (fun W [IsExt w3 W] => C.colour W z)
        have EG : Hid (S2.scanG z = if S2.has z && decide (S2.colour z = 1) then S2.scan z else S2) := Lib.hid rfl
        have CZ := Lib.hid (fun W (x : Ext w3 W) hz => CS.out W S2 (M3.out.ext x) z hz)
        clear m3 R C CS
        cases hz : S2.has z with
        | false =>
          rw [hz, Bool.false_and, if_neg (by decide)] at EG
          rw [hz] at C1
          clear hz CZ C2
          go_wp2_with (first | (go_at_call 174; refine (C1.out _).mono ?_; rintro e w2 ⟨rfl, x2⟩; obtain ⟨y, rfl⟩ := x2))
          have E4 : Hid (MS.allO k S2 = some S') := Lib.hid (by have := E3.out; rw [EG.out] at this; exact this)
          go_roundw
          case rel =>
            refine (ND.out _ S2 E4.out ?_ ?_).1
            · exact M3.out.ext (is_ext _ _)
            · exact K3.out.ext (is_ext _ _)
          case measure =>
            refine (ND.out _ S2 E4.out ?_ ?_).2
            · exact M3.out.ext (is_ext _ _)
            · exact K3.out.ext (is_ext _ _)
        | true =>
          rw [hz, Bool.true_and] at EG
          rw [hz] at C1
          replace CZ := Lib.hid (fun W (x : Ext w3 W) => CZ.out W x hz)
          clear hz
          by_cases hc : S2.colour z = 1
          · rw [decide_eq_true hc, if_pos rfl] at EG
            rw [hc] at C2
            clear hc
            go_wp2_with (first | (go_at_call 174; refine (C1.out _).mono ?_; rintro e w2 ⟨rfl, x2⟩; obtain ⟨y, rfl⟩ := x2) | (go_at_call 170; refine (C2.out _).mono ?_; rintro e w2 ⟨rfl, x2⟩; obtain ⟨y, rfl⟩ := x2))
            refine calls_name (fun W hW => ?_)
            have hx : IsExt w3 W := ⟨by rw [hW]; exact is_ext _ _⟩
            clear hW
            refine (CZ.out W hx.out).mono ?_
            rintro e w5 ⟨rfl, m5, k5⟩
            have NX := Lib.hid (ND.out _ _ (by have := E3.out; rw [EG.out] at this; exact this) m5 (K3.out.trans ((Keep.of_ext hx.out F).trans k5)))
            clear m5 k5 hx c0 lt C1 C2 CZ M3 K3 ND
            go_wp2_with fail
            go_roundw
            case rel => exact NX.out.1
            case measure => exact NX.out.2
          · rw [decide_eq_false hc, if_neg (by decide)] at EG
            have e2 : (S2.colour z == 1) = false := beq_eq_false_iff_ne.2 hc
            clear hc CZ
            generalize S2.colour z = cz at *
            go_wp2_with (first | (go_at_call 174; refine (C1.out _).mono ?_; rintro e w2 ⟨rfl, x2⟩; obtain ⟨y, rfl⟩ := x2) | (go_at_call 170; refine (C2.out _).mono ?_; rintro e w2 ⟨rfl, x2⟩; obtain ⟨y, rfl⟩ := x2))
            have E4 : Hid (MS.allO k S2 = some S') := Lib.hid (by have := E3.out; rw [EG.out] at this; exact this)
            go_roundw
            case rel =>
              refine (ND.out _ S2 E4.out ?_ ?_).1
              · exact M3.out.ext (is_ext _ _)
              · exact K3.out.ext (is_ext _ _)
            case measure =>
              refine (ND.out _ S2 E4.out ?_ ?_).2
              · exact M3.out.ext (is_ext _ _)
              · exact K3.out.ext (is_ext _ _)
end
end Go.Proofs.YtjpalcejmloocaaGreat.World
