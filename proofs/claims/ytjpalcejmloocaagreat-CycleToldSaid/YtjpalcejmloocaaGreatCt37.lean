/-
  Cyc10, as one text (a claim has at most 60 files).
-/
import Derived.Test.YtjpalcejmloocaaGreatCt36
import Derived.BigGuardPart
import Derived.Deep.AppendLies
namespace Go.Proofs.YtjpalcejmloocaaGreat.World
open Go.RowKit Go.Proofs.YtjpalcejmloocaaGreat.Plain
set_option linter.unusedVariables false
attribute [local go_sem ↓] Go.wp_at_zero Go.wp_at_succ
namespace MS
/-- what becomes of what is told while things become due -/
structure DueI (p q : MS × Int) : Prop where
  len : q.1.L.length = p.1.L.length
  dead : q.1.dead = p.1.dead
  lst : q.1.lst = p.1.lst
  phase : q.1.phase = p.1.phase
  two : q.2 - p.2 = (q.1.R.due.length : Int) - p.1.R.due.length
  up : p.2 ≤ q.2
theorem DueI.refl (p : MS × Int) : DueI p p := ⟨rfl, rfl, rfl, rfl, by omega, Int.le_refl _⟩
theorem DueI.trans {p q r : MS × Int} (h : DueI p q) (k : DueI q r) : DueI p r := ⟨k.len.trans h.len, k.dead.trans h.dead, k.lst.trans h.lst, k.phase.trans h.phase, by have := h.two; have := k.two; omega, Int.le_trans h.up k.up⟩
theorem due_one (p : MS × Int) (i : Int) : DueI p (dueT p i) := by
  unfold dueT
  split
  · exact ⟨setFin_len i false, rfl, rfl, rfl, by show p.2 + 1 - p.2 = ((p.1.R.due ++ [i]).length : Int) - _; rw [List.length_append]; simp; omega, by show p.2 ≤ p.2 + 1; omega⟩
  · exact .refl p
theorem due_all : ∀ (l : List Int) (p : MS × Int), DueI p (l.foldl dueT p)
  | [], p => .refl p
  | i :: l, p => (due_one p i).trans (due_all l _)
theorem due_snoc (l : List Int) (i : Int) (p : MS × Int) : (l ++ [i]).foldl dueT p = dueT (l.foldl dueT p) i := by rw [List.foldl_append]; rfl
theorem due_le : ∀ (l : List Int) (p : MS × Int), (l.foldl dueT p).2 ≤ p.2 + l.length
  | [], p => by simp
  | i :: l, p => by
    have h := due_le l (dueT p i)
    have h2 : (dueT p i).2 ≤ p.2 + 1 := by
      unfold dueT; split
      · exact Int.le_refl _
      · omega
    show (l.foldl dueT (dueT p i)).2 ≤ _
    rw [List.length_cons]
    omega
theorem kill_snoc (l : List Int) (i : Int) (S : MS) : (l ++ [i]).foldl killT S = killT (l.foldl killT S) i := by rw [List.foldl_append]; rfl
theorem kill_len (S : MS) : ∀ l : List Int, (l.foldl killT S).L.length = S.L.length ∧ (l.foldl killT S).lst = S.lst := by
  intro l
  induction l generalizing S with
  | nil => exact ⟨rfl, rfl⟩
  | cons i l ih =>
    have h := ih (killT S i)
    have e : (killT S i).L.length = S.L.length ∧ (killT S i).lst = S.lst := by unfold killT; split <;> exact ⟨rfl, rfl⟩
    exact ⟨h.1.trans e.1, h.2.trans e.2⟩
end MS
theorem ownI_low {w : World} {b b' : Nat} {v : Value} {l : List Int} (h : OwnI w b v l) (hb : b' ≤ b) : OwnI w b' v l := by
  unfold OwnI at *
  refine ⟨h.1, ?_⟩
  rcases h.2 with hn | ⟨g, cap, cur, e1, h1, rest⟩
  · exact .inl hn
  · exact .inr ⟨g, cap, cur, e1, Nat.le_trans hb h1, rest⟩
theorem flat_oneI (l : List Int) : flat l.length 1 (cI l) = l.map (Value.int .i64) := by
  refine List.ext_getElem? fun i => ?_
  by_cases hi : i < l.length
  · have q := flat_at l.length 1 (cI l) i 0 hi (by omega)
    rw [Nat.mul_one, Nat.add_zero] at q
    rw [q]
    unfold cI
    simp [List.getD_eq_getElem?_getD, hi]
  · rw [List.getElem?_eq_none (by rw [flat_len]; omega), List.getElem?_eq_none (by rw [List.length_map]; omega)]
theorem Mov.due {w w' : World} {F : Nat → Prop} {gg : Nat} (K : Keep (fun k => F k ∨ k = gg) w w') (h : F gg ∨ w.heap.size ≤ gg) : Mov F (fun k => F k ∨ k = gg) w w' := by
  refine ⟨⟨K.os, K.tape, K.output, K.size, fun k hk hn => K.block k hk (fun hh => ?_)⟩, fun k hk => ?_⟩
  · rcases hh with hh | rfl
    · exact hn hh
    · rcases h with h | h
      · exact hn h
      · omega
  · rcases hk with hk | rfl
    · exact .inl hk
    · exact h
theorem Mov.same {w w' : World} {F : Nat → Prop} (K : Keep F w w') : Mov F F w w' := ⟨K, fun k h => .inl h⟩
section
variable {w w' w2 : World} {F F' F2 : Nat → Prop} {m : Nat} {S S' : MS} {X : MX}
theorem endO_parts {n : Nat} {d : Int} (he : MS.endO n S = some (S', d)) : ∃ S1 S5, S.smallB = true ∧ MS.allO n S.roots = some S1 ∧ S1.has 0 = true ∧ S1.smallB = true ∧ MS.allO n (MS.endB (MS.endA S1.weaken)) = some S5 ∧ S5.has 0 = true ∧ S5.weaken.lstB = true ∧ S' = MS.endC S5.weaken ∧ d = (MS.endA S1.weaken).2 := by
  unfold MS.endO at he
  cases h1 : S.smallB with
  | false => rw [h1, if_neg (by decide)] at he; cases he
  | true =>
    rw [h1, if_pos rfl] at he
    cases h2 : MS.allO n S.roots with
    | none => rw [h2] at he; cases he
    | some S1 =>
      rw [h2] at he
      simp only at he
      cases h3 : (S1.has 0 && S1.smallB) with
      | false => rw [h3, if_neg (by decide)] at he; cases he
      | true =>
        rw [h3, if_pos rfl] at he
        rw [Bool.and_eq_true] at h3
        cases h4 : MS.allO n (MS.endB (MS.endA S1.weaken)) with
        | none => rw [h4] at he; cases he
        | some S5 =>
          rw [h4] at he
          simp only at he
          cases h5 : (S5.has 0 && S5.weaken.lstB) with
          | false => rw [h5, if_neg (by decide)] at he; cases he
          | true =>
            rw [h5, if_pos rfl] at he
            rw [Bool.and_eq_true] at h5
            injection he with he
            injection he with e1 e2
            exact ⟨S1, S5, rfl, rfl, h3.1, h3.2, h4, h5.1, h5.2, e1.symm, e2.symm⟩
set_option maxRecDepth 100000 in
set_option maxHeartbeats 8000000 in
theorem mend (h : M w F m S) {n : Nat} {dd : Int} (he : MS.endO n S = some (S', dd)) : Calls Tryz.prog 62 #[.pointer (some ⟨m, 0, none⟩)] w fun e w' => e = .returned (.int .i64 dd) ∧ Goes F m S' w w' := by
  obtain ⟨S1, S5, s0, e1, z1, s1, e5, z5, b6, eS, eD⟩ := endO_parts he
  have ES := Lib.hid eS
  have ED0 := Lib.hid eD
  clear eS eD
  have C1 := Lib.hid (mroots h s0)
  have C2 := Lib.hid (fun W (x : M W F m S.roots) => mall x e1)
  have C3 := Lib.hid (fun W (x : M W F m S1) => mweaken x z1)
  have E5 := Lib.hid e5
  have Z5 := Lib.hid z5
  have B6 := Lib.hid b6
  have SM := Lib.hid s1
  have KW := Lib.hid (MS.kin_weaken S1)
  clear h he s0 e1 z1 s1 e5 z5 b6
  go_enter Tryz.func62, Tryz.ntmps62
  go_big_wp2_with fail
  refine C1.out.mono ?_
  rintro e w1 ⟨rfl, m1, k1⟩
  have M1 := Lib.hid m1
  have K1 := Lib.hid k1
  clear m1 k1 C1
  go_big_wp2_with fail
  refine (C2.out _ M1.out).mono ?_
  rintro e w2 ⟨rfl, m2, k2⟩
  have M2 := Lib.hid m2
  have K2 := Lib.hid (K1.out.trans k2)
  clear m2 k2 C2 M1 K1
  go_big_wp2_with fail
  refine (C3.out _ M2.out).mono ?_
  rintro e w3 ⟨rfl, m3, k3⟩
  have M3 := Lib.hid m3
  have K3 := Lib.hid (K2.out.trans k3)
  clear m3 k3 C3 M2 K2
  have SM2 : Hid (S1.weaken.R.due.length < 10000) := Lib.hid (by rw [KW.out.R]; have := of_decide_eq_true SM.out; omega)
  clear KW SM
  generalize S1.weaken = S2 at *
  obtain ⟨X, hX⟩ := M3.out
  have wf2 := hX.wf
  have C := hX.clx
  have c0 := C.c0
  have lt := C.lt
  have fz := C.fz 14
  obtain ⟨bt', sb', CC⟩ := M3.out.cl
  have c0' := CC.c0
  obtain rfl : X.bt = bt' := by
    have := c0.symm.trans c0'
    injection this with e
    injection e with _ e
    injection e with e
    injection e with e
    injection e
  have CP := Lib.hid (fun W [IsExt w3 W] => CC.places W)
  have c14 := C.c14
  have HX := Lib.hid hX
  have HL := Lib.hid hX.lt
  clear C CC c0' hX M3
  go_big_wp2_with fail
  refine calls_name (fun W hW => ?_)
  have hx : IsExt w3 W := ⟨by rw [hW]; exact is_ext _ _⟩
  clear hW
  refine (CP.out W).mono ?_
  rintro e w4 ⟨A, c, rfl, o, x4⟩
  have X4 := Lib.hid (hx.out.trans x4)
  have O4 := Lib.hid o
  have c14' := (X4.out.below.cell (p := ⟨m, 14, none⟩) lt).trans c14
  have fz' := (X4.out.below.frozen (p := ⟨m, 14, none⟩) lt).trans fz
  have lt' := Nat.lt_of_lt_of_le lt X4.out.below.size
  have ML := Lib.hid ((HX.out.ext X4.out).setList (v := .slice A S2.places.length c) (b := w3.heap.size) (fun k hk => HL.out k hk) (by
    have := hx.out.below.size
    exact ownI_low o this))
  have KL : Hid (Mov F (fun k => F k ∨ (Value.slice A S2.places.length c).ownBlock = some k) w (w4.setCell ⟨m, 14, none⟩ (.slice A S2.places.length c))) := Lib.hid (by
    refine ⟨(K3.out.trans (Keep.of_ext X4.out F)).setCell (p := ⟨m, 14, none⟩) HX.out.mF _, fun k hk => ?_⟩
    rcases hk with hk | hk
    · exact .inl hk
    · have h1 := (o.own.block hk).1
      have h2 := hx.out.below.size
      have h3 := K3.out.size
      exact .inr (by omega))
  clear x4 o hx c0 lt fz c14 CP HX HL K3
  have PH := Lib.hid (fun i (hi : i ∈ S2.places) => MS.places_has hi)
  have PLn := Lib.hid (MS.placesTo_len S2 S2.L.length)
  have EA : Hid (S2.endA = S2.places.foldl MS.dueT ({ S2 with lst := S2.places }, 0)) := Lib.hid rfl
  have wl := wf2.len
  have wl2 := wf2.last
  clear wf2 O4 X4
  generalize hl : S2.places = l at *
  have PL2 : Hid (l.length ≤ 3000) := Lib.hid (by rw [← hl]; unfold MS.places; have := PLn.out; omega)
  clear hl PLn
  go_upto_region 5 with (fail)
  refine wp_name (fun W5 hW => ?_)
  rw [← hW] at ML KL
  clear hW c14' fz' lt'
  obtain ⟨X3, hX3⟩ : ∃ X3, X3 = ({ X with li := .slice A l.length c } : MX) := ⟨_, rfl⟩
  have XL : Hid (X3.li = .slice A l.length c) := Lib.hid (by rw [hX3])
  rw [← hX3] at ML
  clear hX3
  generalize (fun k => F k ∨ (Value.slice A l.length c).ownBlock = some k) = F5 at *
  obtain ⟨S3, hS3⟩ : ∃ S3, S3 = ({ S2 with lst := l } : MS) := ⟨_, rfl⟩
  have L3 : Hid (S3.lst = l ∧ S3.L.length ≤ 3000 ∧ S3.R.due.length < 10000 ∧ (∀ i ∈ l, 0 ≤ i ∧ i < S3.L.length)) := Lib.hid (by
    rw [hS3]
    exact ⟨rfl, (by omega : S2.L.length ≤ 3000), SM2.out, fun i hi => MS.has_lt (PH.out i hi)⟩)
  rw [← hS3] at ML EA
  clear hS3 wl wl2 PH SM2
  have C := ML.out.clx
  have c14 := C.c14
  rw [XL.out] at c14
  have lt := C.lt
  clear C
  generalize hnl : l.length = n3 at *
  have HNL := Lib.hid hnl
  clear hnl
  have nB : n3 ≤ 3000 := PL2.out
  have TK : Hid (∀ k, k < n3 → l.take (k + 1) = l.take k ++ [l.getD k 0]) := Lib.hid (fun k h => take_next (by rw [HNL.out]; exact h))
  have TA : Hid (l.take n3 = l) := Lib.hid (by rw [← HNL.out]; exact List.take_length ..)
  have GM : Hid (∀ k, k < n3 → l.getD k 0 ∈ l) := Lib.hid (fun k h => by
    rw [List.getD_eq_getElem?_getD, List.getElem?_eq_getElem (by rw [HNL.out]; exact h)]
    exact List.getElem_mem _)
  have DI := Lib.hid (fun k => MS.due_all (l.take k) (S3, 0))
  have DL : Hid (∀ k, k ≤ n3 → ((l.take k).foldl MS.dueT (S3, 0)).2 ≤ k) := Lib.hid (fun k hk => by
    have := MS.due_le (l.take k) (S3, 0)
    rw [List.length_take] at this
    have e : min k l.length = k := by rw [HNL.out]; omega
    rw [e] at this
    have this : ((l.take k).foldl MS.dueT (S3, 0)).2 ≤ (0 : Int) + k := this
    omega)
  obtain ⟨i0, hI, hI0, hI1, hI2⟩ := info_parts infoN
  go_big_wp2_with fail
  clear c14 lt
  rename World => wo
  go_loopw [3, 29] (fun dv iv wq => ∃ k : Nat, k ≤ n3 ∧ iv = .int .i64 k ∧ dv = .int .i64 ((l.take k).foldl MS.dueT (S3, 0)).2 ∧ ∃ F1 X1, MemAt wq F1 m ((l.take k).foldl MS.dueT (S3, 0)).1 X1 ∧ X1.li = .slice A n3 c ∧ Mov F F1 w wq) (fun _ iv _ => n3 - (intOf iv).toNat)
  case atStart => exact ⟨0, by omega, rfl, rfl, F5, X3, ML.out, XL.out, KL.out⟩
  case round =>
    clear ML KL XL
    obtain ⟨k, hk, rfl, rfl, F1, X1, hm, hxl, hmv⟩ := hrel
    have MV := Lib.hid hmv
    have HM := Lib.hid hm
    have XL := Lib.hid hxl
    clear hmv hxl
    have DIk := Lib.hid (DI.out k)
    have DLk := Lib.hid (DL.out k hk)
    by_cases hlt : k < n3
    · have kI : (k : Int) < (n3 : Int) := by omega
      have T := Lib.hid (TK.out k hlt)
      have PN : Hid ((l.take (k + 1)).foldl MS.dueT (S3, 0) = MS.dueT ((l.take k).foldl MS.dueT (S3, 0)) (l.getD k 0)) := Lib.hid (by rw [T.out, MS.due_snoc])
      have IZ := Lib.hid (L3.out.2.2.2 _ (GM.out k hlt))
      have row := hm.li
      rw [DIk.out.lst] at row
      have row : IntsAt wr X1.li S3.lst := row
      rw [L3.out.1, XL.out] at row
      have row2 : Row wr (.slice A n3 c) n3 1 (fun i _ => .int .i64 (l.getD i 0)) := by have q : Row wr (.slice A n3 c) l.length 1 (fun i _ => .int .i64 (l.getD i 0)) := row; rw [HNL.out] at q; exact q
      obtain ⟨b, off, rfl, hb, hc⟩ := Row.at_ row2 k hlt
      have d0 : wr.cell? ⟨b, off + k, none⟩ = some (.int .i64 (l.getD k 0)) := by have := hc 0 (by omega); rw [Nat.mul_one] at this; exact this
      clear hc row row2 T
      generalize l.getD k 0 = z at *
      generalize (l.take k).foldl MS.dueT (S3, 0) = p at *
      obtain ⟨Sp, dp⟩ := p
      have bd : 0 ≤ dp ∧ dp ≤ 3000 := by
        have h1 := DIk.out.up
        have h2 := DLk.out
        have h1 : (0 : Int) ≤ dp := h1
        have h2 : dp ≤ k := h2
        omega
      have DD : Hid (Sp.R.due.length ≤ 13000) := Lib.hid (by
        have h1 := DIk.out.two
        have h2 := L3.out.2.2.1
        have h1 : dp - 0 = (Sp.R.due.length : Int) - S3.R.due.length := h1
        omega)
      have LP : Hid (z < Sp.L.length) := Lib.hid (by rw [DIk.out.len]; exact IZ.out.2)
      have ED : Hid (MS.dueT (Sp, dp) z = if decide (Sp.colour z = 0) && Sp.final z then ((Sp.setFin z false).addDue z, dp + 1) else (Sp, dp)) := Lib.hid rfl
      have C := hm.clx
      have c0 := C.c0
      have lt := C.lt
      have D1 := Lib.hid (fun W [IsExt wr W] => C.colour W z)
      have D2 := Lib.hid (fun W [IsExt wr W] => C.final W z)
      have D3 := Lib.hid (fun W [IsExt wr W] => C.setFin W z false IZ.out.1 LP.out)
      clear C hm
      by_cases hcz : Sp.colour z = 0
      · cases hfz : Sp.final z with
        | true =>
          rw [decide_eq_true hcz, hfz, Bool.true_and, if_pos rfl] at ED
          rw [hcz] at D1
          rw [hfz] at D2
          clear hcz hfz
          go_big_wp2_with (first | (go_at_call 170; refine (D1.out _).mono ?_; rintro e w2 ⟨rfl, x2⟩; obtain ⟨y, rfl⟩ := x2) | (go_at_call 172; refine (D2.out _).mono ?_; rintro e w2 ⟨rfl, x2⟩; obtain ⟨y, rfl⟩ := x2))
          refine calls_name (fun W hW => ?_)
          have hx : IsExt wr W := ⟨by rw [hW]; exact is_ext _ _⟩
          clear hW
          refine (D3.out W).mono ?_
          rintro e w5 ⟨rfl, m5, k5⟩
          have M5 := Lib.hid m5
          have V5 := Lib.hid (MV.out.trans ((Mov.of_ext hx.out).trans (Mov.same k5)))
          clear k5 hx c0 lt d0 hb D1 D2 D3 HM MV
          have eD : (Sp.setFin z false).R = Sp.R := rfl
          have rD := m5.R.du
          rw [eD] at rD
          obtain ⟨A1, c1, ed⟩ := rD.form
          have C := m5.clx
          have c5 := C.c5
          have lt := C.lt
          have o5 : w5.ownsRow 0 3 1 X1.du Sp.R.due.length (Sp.R.due.map (Value.int .i64)) := by have q : w5.ownsRow 0 3 1 X1.du Sp.R.due.length (flat Sp.R.due.length 1 (cI Sp.R.due)) := rD; rw [flat_oneI] at q; exact q
          rw [ed] at c5 o5
          have EDu := Lib.hid ed
          have O5 := Lib.hid (World.ownsRow.alloc o5 (.cells #[.int .i64 z] 3))
          have NM : Hid (¬ (Value.slice A1 Sp.R.due.length c1).ownBlock = some m) := Lib.hid (fun hh => own_blk_ne rD m5.bm (by decide) (by rw [ed]; exact hh))
          have BM := Lib.hid ((m5.bm).alloc (.cells #[.int .i64 z] 3))
          clear C ed rD m5 o5 eD
          generalize hD : Sp.R.due.length = D at *
          have HD := Lib.hid hD
          have dB : D ≤ 13000 := DD.out
          clear hD
          go_big_wp2_with ((at_builtin; refine wpList_append_lies _ rfl _ _ _ rfl 0 3 i0 (.int .i64 0) 1 8 Tryz.underlying25 hI hI0 hI1 hI2 rfl (by decide) (.slice A1 D c1) D (Sp.R.due.map (Value.int .i64)) (by rfl) O5.out ⟨w5.heap.size, 0, none⟩ 1 1 [.int .i64 z] (by rfl) (by rfl) (World.news_of_block (heap_alloc_new w5 _)) (by simp [Value.oneCell']) (by omega) (by unfold maxLen; omega) (by omega) (by omega) (w5.heap.size + 1) (by rw [World.size_alloc]) ?_; intro gg cc w6 o6 g6 hat6 hlt6; have BM6 := BM.out.keep (⟨g6.os, g6.tape, g6.output, g6.size, fun k hk hn => g6.block k hk (fun e => hn e.symm)⟩ : Keep (fun k => (Value.slice A1 D c1).ownBlock = some k) _ w6) NM.out; obtain ⟨b1, b2, b3⟩ := BM6.rules; have O6 := Lib.hid o6; have G6 := Lib.hid g6; have H6 := Lib.hid hat6; clear o6 g6 hat6))
          have AD := (M5.out.ext ((Ext.refl w5).alloc (.cells #[.int .i64 z] 3))).addDue (w6 := w6) (gg := gg) (cc := cc) (i := z) (by rw [EDu.out]; exact G6.out) (by
            rw [EDu.out]
            rcases H6.out with h1 | h1
            · exact .inl h1
            · exact .inr (by rw [World.size_alloc]; omega)) (by
            show w6.ownsRow 0 3 1 (.slice (some ⟨gg, 0, none⟩) (Sp.R.due.length + 1) cc) (Sp.R.due.length + 1) (Sp.R.due.map (Value.int .i64) ++ [.int .i64 z])
            rw [HD.out]; exact O6.out)
          rw [show (Sp.setFin z false).R.due.length = D from HD.out] at AD
          obtain ⟨AD1, AD2⟩ := AD
          have MVD := V5.out.trans ((Mov.of_ext ((Ext.refl w5).alloc (.cells #[.int .i64 z] 3))).trans (Mov.due AD2 (by
            rcases H6.out with h1 | h1
            · exact .inl (M5.out.rF.2.2.1 gg (by rw [EDu.out]; exact h1))
            · exact .inr (by rw [World.size_alloc]; omega))))
          refine ⟨⟨k + 1, by omega, by go_num, by rw [PN.out, ED.out], fun k => F1 k ∨ k = gg, { X1 with du := .slice (some ⟨gg, 0, none⟩) (D + 1) cc }, by rw [PN.out, ED.out]; exact AD1, XL.out, MVD⟩, by simp [intOf] <;> omega⟩
        | false =>
          rw [decide_eq_true hcz, hfz, Bool.true_and, if_neg (by decide)] at ED
          rw [hcz] at D1
          rw [hfz] at D2
          clear hcz hfz D3
          go_big_wp2_with (first | (go_at_call 170; refine (D1.out _).mono ?_; rintro e w2 ⟨rfl, x2⟩; obtain ⟨y, rfl⟩ := x2) | (go_at_call 172; refine (D2.out _).mono ?_; rintro e w2 ⟨rfl, x2⟩; obtain ⟨y, rfl⟩ := x2))
          go_roundw
          case rel => exact ⟨k + 1, by omega, by go_num, by rw [PN.out, ED.out], F1, X1, by rw [PN.out, ED.out]; exact HM.out.ext (is_ext _ _), XL.out, MV.out.ext (is_ext _ _)⟩
          case measure => simp [intOf] <;> omega
      · have e1 : (Sp.colour z == 0) = false := beq_eq_false_iff_ne.2 hcz
        rw [decide_eq_false hcz, Bool.false_and, if_neg (by decide)] at ED
        clear hcz D2 D3
        generalize Sp.colour z = cz at *
        go_big_wp2_with (first | (go_at_call 170; refine (D1.out _).mono ?_; rintro e w2 ⟨rfl, x2⟩; obtain ⟨y, rfl⟩ := x2))
        go_roundw
        case rel => exact ⟨k + 1, by omega, by go_num, by rw [PN.out, ED.out], F1, X1, by rw [PN.out, ED.out]; exact HM.out.ext (is_ext _ _), XL.out, MV.out.ext (is_ext _ _)⟩
        case measure => simp [intOf] <;> omega
    · obtain rfl : k = n3 := by omega
      rw [TA.out, ← EA.out] at DIk DLk HM
      rw [TA.out, ← EA.out]
      have bd : 0 ≤ S2.endA.2 ∧ S2.endA.2 ≤ 3000 := by
        have h1 : (0 : Int) ≤ S2.endA.2 := DIk.out.up
        have h2 := DLk.out
        omega
      have DD : Hid (S2.endA.2 ≤ S2.endA.1.R.due.length ∧ S2.endA.1.R.due.length ≤ 13000) := Lib.hid (by
        have h1 := DIk.out.two
        have h2 := L3.out.2.2.1
        have h1 : S2.endA.2 - 0 = (S2.endA.1.R.due.length : Int) - S3.R.due.length := h1
        omega)
      have EB : Hid (MS.endB S2.endA = S2.endA.1.shades (S2.endA.1.R.due.drop (S2.endA.1.R.due.length - S2.endA.2.toNat))) := Lib.hid rfl
      clear hm EA TA TK GM DI DL DIk DLk L3 HNL PL2 XL
      generalize S2.endA = p at *
      obtain ⟨Sp, dp⟩ := p
      obtain ⟨d, rfl⟩ := Int.eq_ofNat_of_zero_le bd.1
      go_upto_region 14 with (fail)
      have C := HM.out.clx
      have c5 := C.c5
      have lt := C.lt
      have RD : Hid (Own wr 0 3 X1.du Sp.R.due.length 1 (cI Sp.R.due)) := Lib.hid HM.out.R.du
      obtain ⟨A1, c1, ed⟩ := RD.out.form
      rw [ed] at c5
      have EDu := Lib.hid ed
      clear C ed
      have hd1 : d ≤ Sp.R.due.length := by have q : (d : Int) ≤ (Sp.R.due.length : Int) := DD.out.1; omega
      have hd2 : Sp.R.due.length ≤ 13000 := DD.out.2
      obtain ⟨q0, hq0⟩ : ∃ q0, Sp.R.due.length - d = q0 := ⟨_, rfl⟩
      have EB2 : Hid (MS.endB (Sp, (d : Int)) = Sp.shades (Sp.R.due.drop q0)) := Lib.hid (by rw [← hq0]; exact EB.out)
      generalize hD : Sp.R.due.length = D at *
      have HD := Lib.hid hD
      have hsub : (D : Int) - (d : Int) = (q0 : Int) := by omega
      have hq1 : (q0 : Int) ≤ (D : Int) := by omega
      have HQ := Lib.hid (show q0 + d = D by omega)
      clear hD hq0 EB
      refine wp_region_ext (by kernel_rfl) (by kernel_rfl) ?_
      repeat (go_big_quiet_step (fail))
      refine wpQuiet_nil ?_
      rintro W6 x6
      replace x6 : Ext wr W6 := x6
      have M6 := Lib.hid (HM.out.ext x6)
      have V6 := Lib.hid (MV.out.ext x6)
      have eDq : D - q0 = d := by have := HQ.out; omega
      rw [eDq]
      obtain ⟨A2, hA2⟩ : ∃ A2, (if c1 = q0 then A1 else Option.map (fun x => x.add q0) A1) = A2 := ⟨_, rfl⟩
      rw [hA2]
      have A2F : Hid (∀ k, k < d → ∃ g, A2 = some ⟨g, q0, none⟩ ∧ X1.du = .slice (some ⟨g, 0, none⟩) D c1) := Lib.hid (fun k hk => by
        have rd := RD.out
        obtain ⟨g, cap, e, h1, _⟩ := rd.lt (q0 + k) (by have := HQ.out; omega)
        rw [EDu.out] at e
        injection e with ea _ ec
        subst ea ec
        refine ⟨g, ?_, EDu.out⟩
        rw [← hA2, if_neg (by have := HQ.out; omega)]
        show some ((⟨g, 0, none⟩ : Addr).add q0) = _
        rw [Addr.add_lit, Nat.zero_add])
      clear hA2 eDq RD c5 lt hsub hq1 x6 HM MV EDu hd1 bd DD wo
      obtain ⟨l2, hl2⟩ : ∃ l2, Sp.R.due.drop q0 = l2 := ⟨_, rfl⟩
      have L2 : Hid (l2.length = d ∧ ∀ k, l2.getD k 0 = Sp.R.due.getD (q0 + k) 0) := Lib.hid (by
        rw [← hl2]
        refine ⟨by rw [List.length_drop, HD.out]; have := HQ.out; omega, fun k => ?_⟩
        rw [List.getD_eq_getElem?_getD, List.getD_eq_getElem?_getD, List.getElem?_drop])
      rw [hl2] at EB2
      clear hl2
      have TK : Hid (∀ k, k < d → l2.take (k + 1) = l2.take k ++ [l2.getD k 0]) := Lib.hid (fun k h => take_next (by rw [L2.out.1]; exact h))
      have TA : Hid (l2.take d = l2) := Lib.hid (by rw [← L2.out.1]; exact List.take_length ..)
      have AK := Lib.hid (fun k => MS.alike_shades (l2.take k) Sp)
      have dB : d ≤ 13000 := by have := HQ.out; omega
      generalize c1 - q0 = c2 at *
      go_big_wp2_with fail
      go_loopw [84] (fun iv wq => ∃ k : Nat, k ≤ d ∧ iv = .int .i64 k ∧ MemAt wq F1 m (Sp.shades (l2.take k)) X1 ∧ Mov F F1 w wq) (fun iv _ => d - (intOf iv).toNat)
      case atStart => exact ⟨0, by omega, rfl, M6.out, V6.out⟩
      case round =>
        clear M6 V6
        obtain ⟨k2, hk2, rfl, hm, hmv⟩ := hrel
        have MV := Lib.hid hmv
        have HM := Lib.hid hm
        clear hmv
        by_cases hlt2 : k2 < d
        · have kI : (k2 : Int) < (d : Int) := by omega
          obtain ⟨g, rfl, hdu⟩ := A2F.out k2 hlt2
          have T := Lib.hid (TK.out k2 hlt2)
          have rd := hm.R.du
          rw [(AK.out k2).R, hdu, HD.out] at rd
          obtain ⟨g', cp', e', _, _, hg, hc, _, _⟩ := rd.lt (q0 + k2) (by have := HQ.out; omega)
          injection e' with ea _ ec
          injection ea with ea
          injection ea with ea
          subst ea ec
          have d0 : wr.cell? ⟨g, q0 + k2, none⟩ = some (.int .i64 (l2.getD k2 0)) := by
            have := hc 0 (by omega)
            rw [Nat.mul_one] at this
            rw [L2.out.2 k2]; exact this
          clear hc rd hdu hm
          have XS := Lib.hid (fun W (x : Ext wr W) z => xshade (HM.out.ext x) z)
          generalize l2.getD k2 0 = z at *
          go_big_wp2_with fail
          refine calls_name (fun W hW => ?_)
          have hx : IsExt wr W := ⟨by rw [hW]; exact is_ext _ _⟩
          clear hW
          refine (XS.out W hx.out z).mono ?_
          rintro e w7 ⟨rfl, m7, k7⟩
          have M7 := Lib.hid m7
          have V7 := Lib.hid (MV.out.trans ((Mov.of_ext hx.out).trans (Mov.same k7)))
          clear d0 hg hx m7 k7 HM MV XS
          go_big_wp2_with fail
          go_roundw
          case rel => exact ⟨k2 + 1, by omega, by go_num, by rw [T.out, MS.shades_snoc]; exact M7.out, V7.out⟩
          case measure => simp [intOf] <;> omega
        · obtain rfl : k2 = d := by omega
          rw [TA.out, ← EB2.out] at HM
          have MA := Lib.hid (mall ⟨X1, HM.out⟩ E5.out)
          clear hm HM TA EB2 TK AK L2 A2F HQ HD
          go_big_wp2_with fail
          refine MA.out.mono ?_
          rintro e w7 ⟨rfl, m7, k7⟩
          have M7 := Lib.hid m7
          have V7 := Lib.hid (MV.out.trans (Mov.same k7))
          clear m7 k7 MA MV
          go_big_wp2_with fail
          refine (mweaken M7.out Z5.out).mono ?_
          rintro e w8 ⟨rfl, m8, k8⟩
          have M8 := Lib.hid m8
          have V8 := Lib.hid (V7.out.trans (Mov.same k8))
          clear m8 k8 M7 V7
          have EC : Hid (MS.endC S5.weaken = { S5.weaken.lst.foldl MS.killT S5.weaken with phase := 2 }) := Lib.hid rfl
          generalize S5.weaken = S6 at *
          obtain ⟨X6, h6⟩ := M8.out
          have LB : Hid (∀ i ∈ S6.lst, 0 ≤ i ∧ i < S6.L.length) := Lib.hid (fun i hi => of_decide_eq_true (List.all_eq_true.1 B6.out i hi))
          have KE := Lib.hid (fun l => MS.kill_len S6 l)
          have C := h6.clx
          have c14 := C.c14
          have lt := C.lt
          obtain ⟨A6, c6, e6, f1, f2⟩ := Row.form h6.li
          rw [e6] at c14
          have XL := Lib.hid e6
          have H6 := Lib.hid h6
          clear C e6 h6 M8 B6
          generalize hl6 : S6.lst = l6 at *
          have HL6 := Lib.hid hl6
          clear hl6
          generalize hn6 : l6.length = n6 at *
          have HN6 := Lib.hid hn6
          clear hn6
          have TK : Hid (∀ k, k < n6 → l6.take (k + 1) = l6.take k ++ [l6.getD k 0]) := Lib.hid (fun k h => take_next (by rw [HN6.out]; exact h))
          have TA : Hid (l6.take n6 = l6) := Lib.hid (by rw [← HN6.out]; exact List.take_length ..)
          have GM : Hid (∀ k, k < n6 → l6.getD k 0 ∈ l6) := Lib.hid (fun k h => by
            rw [List.getD_eq_getElem?_getD, List.getElem?_eq_getElem (by rw [HN6.out]; exact h)]
            exact List.getElem_mem _)
          go_big_wp2_with fail
          clear c14 lt
          rename World => wo
          go_loopw [101] (fun iv wq => ∃ k : Nat, k ≤ n6 ∧ iv = .int .i64 k ∧ MemAt wq F1 m ((l6.take k).foldl MS.killT S6) X6 ∧ Mov F F1 w wq) (fun iv _ => n6 - (intOf iv).toNat)
          case atStart => exact ⟨0, by omega, rfl, H6.out, V8.out⟩
          case round =>
            clear H6 V8
            obtain ⟨q, hq, rfl, hm, hmv⟩ := hrel
            have MV := Lib.hid hmv
            have HM := Lib.hid hm
            clear hmv
            by_cases hlt3 : q < n6
            · have qI : (q : Int) < (n6 : Int) := by omega
              have T := Lib.hid (TK.out q hlt3)
              have IZ := Lib.hid (LB.out _ (GM.out q hlt3))
              have row := hm.li
              rw [(KE.out (l6.take q)).2, XL.out] at row
              have row2 : Row wr (.slice A6 n6 c6) n6 1 (fun i _ => .int .i64 (l6.getD i 0)) := by have q : Row wr (.slice A6 n6 c6) l6.length 1 (fun i _ => .int .i64 (l6.getD i 0)) := row; rw [HN6.out] at q; exact q
              obtain ⟨b, off, rfl, hb, hc⟩ := Row.at_ row2 q hlt3
              have d0 : wr.cell? ⟨b, off + q, none⟩ = some (.int .i64 (l6.getD q 0)) := by have := hc 0 (by omega); rw [Nat.mul_one] at this; exact this
              have KLn : Hid (((l6.take q).foldl MS.killT S6).L.length = S6.L.length) := Lib.hid (KE.out (l6.take q)).1
              have NX : Hid ((l6.take (q + 1)).foldl MS.killT S6 = MS.killT ((l6.take q).foldl MS.killT S6) (l6.getD q 0)) := Lib.hid (by rw [T.out, MS.kill_snoc])
              clear hc row row2 T
              generalize l6.getD q 0 = z at *
              generalize (l6.take q).foldl MS.killT S6 = Sq at *
              have EK : Hid (MS.killT Sq z = if Sq.colour z = 0 then Sq.kill z else Sq) := Lib.hid rfl
              have C := hm.clx
              have c0 := C.c0
              have lt := C.lt
              have D1 := Lib.hid (fun W [IsExt wr W] => C.colour W z)
              have D2 := Lib.hid (fun W [IsExt wr W] => C.kill W z IZ.out.1 (by rw [KLn.out]; exact IZ.out.2))
              clear C hm
              by_cases hcz : Sq.colour z = 0
              · rw [if_pos hcz] at EK
                rw [hcz] at D1
                clear hcz
                go_big_wp2_with (first | (go_at_call 170; refine (D1.out _).mono ?_; rintro e w2 ⟨rfl, x2⟩; obtain ⟨y, rfl⟩ := x2))
                refine calls_name (fun W hW => ?_)
                have hx : IsExt wr W := ⟨by rw [hW]; exact is_ext _ _⟩
                clear hW
                refine (D2.out W).mono ?_
                rintro e w9 ⟨rfl, m9, k9⟩
                have M9 := Lib.hid m9
                have V9 := Lib.hid (MV.out.trans ((Mov.of_ext hx.out).trans (Mov.same k9)))
                clear d0 hb c0 lt hx m9 k9 HM MV D1 D2
                go_big_wp2_with fail
                go_roundw
                case rel => exact ⟨q + 1, by omega, by go_num, by rw [NX.out, EK.out]; exact M9.out, V9.out⟩
                case measure => simp [intOf] <;> omega
              · have e1 : (Sq.colour z == 0) = false := beq_eq_false_iff_ne.2 hcz
                rw [if_neg hcz] at EK
                clear hcz D2
                generalize Sq.colour z = cz at *
                go_big_wp2_with (first | (go_at_call 170; refine (D1.out _).mono ?_; rintro e w2 ⟨rfl, x2⟩; obtain ⟨y, rfl⟩ := x2))
                go_roundw
                case rel => exact ⟨q + 1, by omega, by go_num, by rw [NX.out, EK.out]; exact HM.out.ext (is_ext _ _), MV.out.ext (is_ext _ _)⟩
                case measure => simp [intOf] <;> omega
            · obtain rfl : q = n6 := by omega
              rw [TA.out] at HM
              have C := HM.out.clx
              have lt := C.lt
              have f12 := C.fz 12
              have b12 := HM.out.bm.cell 12
              unfold cellsM at b12
              simp only [List.getElem?_toArray, List.getElem?_cons_zero, List.getElem?_cons_succ] at b12
              obtain ⟨P1, P2⟩ := HM.out.setPhase 2
              have PE := Lib.hid (show Goes F m (MS.endC S6) w (wr.setCell ⟨m, 12, none⟩ (.int .i64 2)) from ⟨F1, ⟨X6, by rw [EC.out]; exact P1⟩, MV.out.trans (Mov.same P2)⟩)
              clear C P1 P2 hm HM MV TK TA GM KE LB EC
              go_big_wp2_with fail
              go_ret
              exact ⟨ret_int ED0.out.symm, by rw [ES.out]; exact PE.out⟩
end
end Go.Proofs.YtjpalcejmloocaaGreat.World
