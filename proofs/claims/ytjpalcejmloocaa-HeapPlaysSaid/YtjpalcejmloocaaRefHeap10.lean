/-
  Chapter 5's reference (colloquyref05): Make of bytes (printed by gen_orow.py).
-/
import Derived.Test.YtjpalcejmloocaaRefHeap9
namespace Go.Proofs.Ytjpalcejmloocaa.RefHeap
open Go.RowKit Go.Proofs.Ytjpalcejmloocaa.Plain Go.Proofs.Ytjpalcejmloocaa.Free Go.Proofs.Ytjpalcejmloocaa.Heap Go.Proofs.Ytjpalcejmloocaa.RefFree
set_option linter.unusedVariables false
theorem infoU8 : (Try.prog.info? 5).map (fun i => (i.zero, i.size, i.bytes)) = some (some (.int .u8 0), 1, 1) := by kernel_rfl
def zeros8 (n : Nat) : Array Value := Array.replicate n (.int .u8 0)
theorem make_u8 (n : Nat) (hn : n ≤ 70000) (w : World) : (Instr.makeSlice 45 (.int .i64 (n : Int)) (.int .i64 (n : Int))).run Try.prog w = .ok (.slice (some ⟨w.heap.size, 0, none⟩) n n) (w.alloc (.cells (zeros8 n) 5)) := by
  obtain ⟨i0, hi, hz0, hz1, hz2⟩ := info_parts infoU8
  have h := run_make (P := Try.prog) w 45 5 i0 (.int .u8 0) Try.underlying45 hi hz0 .i64 .i64 (n : Int) (n : Int) (by omega) (by omega) (by rw [hz2]; omega) (by omega)
  rw [h]
  have e : madeCells (Value.cells (.int .u8 0)) ((n : Int).toNat * i0.size) = zeros8 n := by
    rw [hz1, Nat.mul_one, Int.toNat_natCast]
    unfold zeros8
    apply Array.ext
    · simp [madeCells]
    · intro j h1 h2
      simp [madeCells, Value.cells, Nat.mod_one]
  rw [e, Int.toNat_natCast]
theorem own_u8 {w : World} {base g n : Nat} (h : Blk w g 5 (zeros8 n)) (hb : base ≤ g) (hn : n ≤ 1000) : w.ownsRow base 5 1 (.slice (some ⟨g, 0, none⟩) n n) (List.replicate n (0 : Int)).length ((List.replicate n (0 : Int)).map (Value.int .u8)) := by
  rw [List.length_replicate]
  refine ⟨by simp, .inr ⟨g, n, zeros8 n, rfl, hb, h, Nat.le_refl _, by unfold maxLen; omega, by simp [zeros8], ?_⟩⟩
  unfold zeros8
  simp
section
variable {w w' w2 : World} {h f ib base n : Nat} {vL : Value} {Q Q' A B : List QO} {q : QO} {is is' : List Bool} {L : List Run}
set_option maxRecDepth 100000 in
set_option maxHeartbeats 4000000 in
theorem rmakeB (H : HAt w h f ib base n vL (A ++ B) is) (FR : Frees is L) (nb : Nat) (cls hash : Int) (W : Nat) (hn : nb ≤ 200) (hWn : W = (nb + 3) / 4) (c0 : 0 ≤ cls) (c1 : cls ≤ 65536) (h0 : 0 ≤ hash) (h1 : hash ≤ 3000) {b k : Nat} (hb : bst L (3 + (W : Int)) L.length = some b) (hk : (nth L b).1 = (k : Int)) (hA : ∀ a ∈ A, a.o.k < k) (hB : ∀ c ∈ B, k < c.o.k) (few : (A ++ B).length < 100) :
    Calls Try.prog 9 #[.pointer (some ⟨h, 0, none⟩), .int .i64 3, .int .i64 (nb : Int), .int .i64 cls, .int .i64 hash] w fun e w' => e = .returned (.tuple #[.int .i64 ((k : Int) + 1), .bool true]) ∧ (∃ v' vF vB, HAt w' h f ib base n v' (A ++ ⟨⟨k, W, 3, cls, hash, [], List.replicate nb 0, 0, false⟩, vF, vB⟩ :: B) (clr is k false (3 + W))) ∧ RK base w w' := by
  have hW : W ≤ 60 := by omega
  have TK := Lib.hid (rtake H.fr FR (3 + W) (by omega) (by omega))
  have HH := Lib.hid H
  obtain ⟨r1, r2, r3⟩ := H.blk.rules
  have hle := H.fr.le
  have BR := Lib.hid (best_run FR hb)
  have LN := Lib.hid H.fr.len
  have HKb := Lib.hid (And.intro hb hk)
  have w0 : (0 : Int) ≤ (nb : Int) := by omega
  have w1 : (nb : Int) ≤ 200 := by omega
  have e4 : ((nb : Int) + 3) / 4 = (W : Int) := by omega
  have MK := make_u8 nb (by omega)
  clear H FR hb hk hWn
  go_enter Try.func9, Try.ntmps9
  go_wp2_with fail
  rw [show 3 + (W : Int) = ((3 + W : Nat) : Int) by omega]
  refine TK.out.mono ?_
  rintro e w1' hpost
  obtain ⟨k', hk', rfl, F1, K1⟩ := hpost.2 b (by rw [show ((3 + W : Nat) : Int) = 3 + (W : Int) by omega]; exact HKb.out.1)
  obtain rfl : k' = k := by have := HKb.out.2; omega
  obtain ⟨t1, t2⟩ := HH.out.free K1 F1
  have H1 := Lib.hid t1
  have R1 := Lib.hid t2
  have hkn : k' + (3 + W) ≤ n := by have := BR.out; have := LN.out; have := HKb.out.2; omega
  clear hpost F1 K1 t1 t2 r1 r2 r3 TK hk' HH BR
  have kk0 : (0 : Int) ≤ (k' : Int) := by omega
  have wr1 : IntKind.i64.wrap ((k' : Int) + 1) = (k' : Int) + 1 := IntWalk.i64_in _ (by omega)
  go_upto_region 12 with (fail)
  refine wp_name (fun w2 hW2 => ?_)
  have BX := Lib.hid (Blk.new' hW2)
  have X2 := Lib.hid ((Ext.refl w1').alloc' hW2)
  have SZ := Lib.hid (Nat.le_refl w1'.heap.size)
  clear hW2
  generalize hbx : w1'.heap.size = bx at *
  have HBX := Lib.hid hbx
  clear hbx
  obtain ⟨s1, s2, s3⟩ := BX.out.rules
  go_upto_region 14 with (fail)
  refine wp_name (fun w4 hW4 => ?_)
  clear s1 s2 s3
  have e5 : (w2.alloc (.cells (zeros8 nb) 5)).heap.size = w2.heap.size + 1 := World.size_alloc ..
  have nbx : bx ≠ w2.heap.size := by have := BX.out.lt; omega
  have BY := Lib.hid (show Blk w4 w2.heap.size 5 (zeros8 nb) by rw [hW4]; have q := Blk.new (w2.setCell ⟨bx, 6, none⟩ (.slice (some ⟨w2.heap.size, 0, none⟩) nb nb)) 5 (zeros8 nb); rw [World.size_setCell] at q; exact q)
  have BZ := Lib.hid (show Blk w4 bx 47 #[.int .i64 ((k' : Int) + 1), .int .i64 (3 + (W : Int)), .int .i64 3, .int .i64 cls, .int .i64 hash, .slice none 0 0, .slice (some ⟨w2.heap.size, 0, none⟩) nb nb, .int .i64 0, .bool false] by rw [hW4]; exact (BX.out.set 6 (.slice (some ⟨w2.heap.size, 0, none⟩) nb nb)).alloc (.cells (zeros8 nb) 5))
  have XZ := Lib.hid (show Ext w1' w4 by rw [hW4]; exact (X2.out.setNew (p := ⟨bx, 6, none⟩) (by rw [HBX.out]; exact Nat.le_refl _) _).alloc (.cells (zeros8 nb) 5))
  have OY := Lib.hid (own_u8 (base := w1'.heap.size) BY.out X2.out.below.size (by omega))
  clear hW4 e5 nbx BX BY X2 MK
  generalize w2.heap.size = gy at *
  go_wp2_with fail
  rename World => wo
  clear wr1
  have WO : Hid (Ext wo wo) := Lib.hid (Ext.refl _)
  have cW : nb = 0 ∨ 0 < nb := by omega
  go_loopw [17] (fun iv wr => iv = .int .i64 0 ∧ Ext wo wr) (fun _ _ => 0)
  case atStart => exact ⟨rfl, WO.out⟩
  case round =>
    obtain ⟨rfl, x⟩ := hrel
    have cW2 : (nb : Int) ≤ 0 ∨ (0 : Int) < (nb : Int) := by omega
    clear cW
    rcases cW2 with i1 | i1
    all_goals (
      have H3 := Lib.hid (H1.out.ext (XZ.out.trans x))
      have BH := Lib.hid (BZ.out.ext x)
      have OH := Lib.hid (own_keep OY.out (Keep.of_ext x (fun _ => False)) (fun _ _ h => h))
      have XH := Lib.hid (XZ.out.trans x)
      clear x
      obtain ⟨A0, c0', e0, _, _⟩ := own_form H1.out.row
      have AL := Lib.hid (H3.out.at_)
      subst e0
      have CU := Lib.hid (H3.out.cuts2 rfl)
      go_wp2_with fail
      clear i1
      have WX : Hid (Ext wr wr) := Lib.hid (Ext.refl _)
      rename World => wz
      have KA : Hid (∀ i, i < A.length → kAt (A ++ B) i < (k' : Int) + 1) := Lib.hid (fun i hi => by
        rw [kAt_get _ _ (by rw [List.length_append]; omega), List.getElem_append_left hi]
        have := hA _ (List.getElem_mem hi)
        omega)
      have KB : Hid (A.length < (A ++ B).length → (k' : Int) + 1 ≤ kAt (A ++ B) A.length) := Lib.hid (fun hlt => by
        rw [kAt_get _ _ hlt]
        have hm : (A ++ B)[A.length]'hlt ∈ B := by rw [List.getElem_append_right (Nat.le_refl _)]; exact List.getElem_mem _
        have := hB _ hm
        omega)
      have LL := Lib.hid (show (A ++ B).length = A.length + B.length from List.length_append)
      have HBK := Lib.hid H3.out.blk
      generalize hK : kAt (A ++ B) = K at *
      generalize hlq : (A ++ B).length = lq at *
      generalize hla : A.length = la at *
      have LQ := Lib.hid hlq
      have LA := Lib.hid hla
      have lle : la ≤ lq := by have := LL.out; omega
      clear hK hlq hla hA hB
      go_loopw [18] (fun iv wx => ∃ t : Nat, t ≤ la ∧ iv = .int .i64 t ∧ Ext wz wx) (fun iv _ => la + 1 - (intOf iv).toNat)
      case atStart => exact ⟨0, Nat.zero_le _, rfl, WX.out⟩
      case round =>
        obtain ⟨t, ht, rfl, x⟩ := hrel
        obtain ⟨r1, r2, r3⟩ := (HBK.out.ext x).rules
        obtain ⟨s1, s2, s3⟩ := (BH.out.ext x).rules
        have XX := Lib.hid x
        by_cases hlt : t < la
        · obtain ⟨g, cap, hv, hg, hc⟩ := AL.out t (by omega)
          injection hv with hv _ _
          subst hv
          have c2 := (x.below.cell (p := ⟨g, t * 9, none⟩) hg).trans hc
          have i1 : (t : Int) < (lq : Int) := by omega
          have e1 : K t < (k' : Int) + 1 := KA.out t hlt
          generalize K t = kk at *
          clear hc x
          go_wp2_with fail
          go_quiet (fail)
          go_wp2_with fail
          exact ⟨⟨t + 1, by omega, by go_num, XX.out.drewN _⟩, by simp [intOf]; omega⟩
        · obtain rfl : t = la := by omega
          have hcs : (t < lq) ∨ (lq = t) := by omega
          rcases hcs with hq | hq
          case' inl =>
            obtain ⟨g, cap, hv, hg, hc⟩ := AL.out t hq
            have hv2 : A0 = some ⟨g, 0, none⟩ := by injection hv
            clear hv
            have c2 := (x.below.cell (p := ⟨g, t * 9, none⟩) hg).trans hc
            have i1 : (t : Int) < (lq : Int) := by omega
            have e1 : (k' : Int) + 1 ≤ K t := KB.out hq
            rw [hv2] at r1
            generalize K t = kk at *
            have HV2 := Lib.hid hv2
            clear hc hv2
          case' inr => have i1 : (lq : Int) ≤ (t : Int) := by omega
          all_goals clear x
          all_goals go_wp2_with fail
          all_goals go_quiet (fail)
          all_goals go_upto_region 21 with (fail)
          all_goals (
            refine wp_name (fun w20 hW20 => ?_)
            have X20 : Hid (Ext wz w20) := Lib.hid (by rw [hW20]; first | exact XX.out | exact XX.out.drew | exact XX.out.drewN _)
            clear hW20 r1 r2 r3 s1 s2 s3 XX
            have HB2 := Lib.hid (HBK.out.ext X20.out)
            have ml : t + B.length ≤ 100 := by have := LL.out; omega
            have ml2 : t ≤ 100 := by omega
            rcases CU.out with ⟨a1, a2, a3, a4, SA, SB⟩ | ⟨g9, a1, a2, SA, SB⟩
            case' inl =>
              have lq0 : lq = 0 := by have := LL.out; omega
              have S2 : ∀ W, (Instr.sliceAt 40 (.slice none 0 0) (some (.int .i64 ((0 : Nat) : Int))) none none).run Try.prog W = .ok (.slice none 0 0) W := fun W => by kernel_rfl
              have PK : ∃ A2 c2, SrcO w20 A2 B.length (rowO B) ∧ (∀ W, (Instr.sliceAt 40 (.slice A0 lq c0') (some (.int .i64 (t : Int))) none none).run Try.prog W = .ok (.slice A2 B.length c2) W) ∧ (A0 = none → A2 = none ∧ c2 = 0) := ⟨none, 0, by rw [a4]; exact SB.ext X20.out, by rw [a1, a2, a3, a4, lq0]; exact S2, fun _ => ⟨rfl, rfl⟩⟩
              have SA2 : ∃ A1 c1, SrcO w20 A1 t (rowO A) ∧ A1 = A0 := ⟨none, 0, by rw [a3]; exact SA.ext X20.out, a1.symm⟩
              clear S2
            case' inr =>
              have S2 := oslice_from g9 lq c0' t (by omega) a2
              have PK : ∃ A2 c2, SrcO w20 A2 B.length (rowO B) ∧ (∀ W, (Instr.sliceAt 40 (.slice A0 lq c0') (some (.int .i64 (t : Int))) none none).run Try.prog W = .ok (.slice A2 B.length c2) W) ∧ (A0 = none → A2 = none ∧ c2 = 0) := ⟨_, c0' - t, SB.ext X20.out, by rw [a1, show B.length = lq - t by have := LL.out; omega]; exact S2, fun h => by rw [a1] at h; cases h⟩
              have SA2 : ∃ A1 c1, SrcO w20 A1 t (rowO A) ∧ A1 = A0 := ⟨_, 0, SA.ext X20.out, a1.symm⟩
              clear S2
            all_goals first | (exfalso; have q9 := HV2.out; rw [a1] at q9; cases q9; done) | skip
            all_goals (
              obtain ⟨A2, c2, SB2, S2, S3⟩ := PK
              have PKH := Lib.hid (And.intro SB2 (And.intro S2 S3))
              clear SB2 S2 S3 SB SA CU
              obtain ⟨A1, c1, SAH, eA1⟩ := SA2
              subst eA1
              have SAX := Lib.hid SAH
              clear SAH
              first | (obtain ⟨rfl, rfl⟩ := And.intro a1 a2; obtain rfl := a3; obtain rfl := lq0) | subst a1
              obtain ⟨r1, r2, r3⟩ := HB2.out.rules
              go_wp2_with (at_builtin; refine wpList_append_O (W0 := w20) rfl (.const (.slice none 0 0)) (.tmp 131) rfl rfl rfl (OneO.nil _ _ (Ext.refl _)) SAX.out (by omega) ?_; intro v19 w21 T19)
              skip))
          · try clear hq
            have X0 := Lib.hid (T19.x.trans (Ext.refl w21).drew)
            have T0 := Lib.hid (T19.ext (Ext.refl w21).drew)
            clear HBK
            have HBK := HB2
            have BXK := Lib.hid (BH.out.ext X20.out)
            have SBH := Lib.hid PKH.out.1
            have S2 := PKH.out.2.1
            have ONE : Hid (∀ u ∈ ([.int .i64 ((k' : Int) + 1), .int .i64 (3 + (W : Int)), .int .i64 3, .int .i64 cls, .int .i64 hash, .slice none 0 0, .slice (some ⟨gy, 0, none⟩) nb nb, .int .i64 0, .bool false] : List Value), u.oneCell' = true) := Lib.hid (by
              intro u hu
              simp only [List.mem_cons, List.not_mem_nil, or_false] at hu
              rcases hu with rfl | rfl | rfl | rfl | rfl | rfl | rfl | rfl | rfl <;> rfl)
            clear T19 r1 r2 r3
            go_wp2_with fail
            refine wp_any_act (fun A' hA => ?_)
            have eA : A' = frMakeReg w20 h bx t lq c0' (some ⟨g9, 0, none⟩) v19 (0 + t) ([] ++ rowO A) 1 [.int .i64 ((k' : Int) + 1), .int .i64 (3 + (W : Int)), .int .i64 3, .int .i64 cls, .int .i64 hash, .slice none 0 0, .slice (some ⟨gy, 0, none⟩) nb nb, .int .i64 0, .bool false] B.length c2 A2 (rowO B) k' W 3 cls hash none (some ⟨gy, 0, none⟩) 0 0 nb nb (fun q => A'.tmps.getD q undef) (fun q => A'.tmps.getD q undef) := by rw [hA]; rfl
            obtain ⟨uu, huu⟩ : ∃ uu, (fun q => A'.tmps.getD q undef) = uu := ⟨_, rfl⟩
            rw [huu] at eA
            clear hA huu
            subst eA
            refine wp_region_inv (Inv := MakeRegInv w20 h bx t lq c0' (some ⟨g9, 0, none⟩) v19 (0 + t) ([] ++ rowO A) 1 [.int .i64 ((k' : Int) + 1), .int .i64 (3 + (W : Int)), .int .i64 3, .int .i64 cls, .int .i64 hash, .slice none 0 0, .slice (some ⟨gy, 0, none⟩) nb nb, .int .i64 0, .bool false] B.length c2 A2 (rowO B) k' W 3 cls hash none (some ⟨gy, 0, none⟩) 0 0 nb nb uu) (by kernel_rfl) ?_ ?_ ?_
            · refine ⟨fun _ => false, fun k => ?_, uu, rfl, by simp, ⟨fun _ => X0.out, ?_, ?_, ?_, ?_, ?_, fun _ => T0.out, ?_, ?_, ?_, ?_, ?_, ?_, ?_, ?_, ?_, ?_, ?_, ?_, ?_, ?_, ?_⟩⟩
              · rw [Array.getD_eq_getD_getElem?, Array.getElem?_replicate]; split <;> rfl
              all_goals (intro h; cases h)
            · rintro listed act w9 ii ⟨L, hL, s, rfl, hsz, I⟩ hi
              obtain ⟨hlt9, hnot, hdep⟩ := (ready_iff _ _).1 hi
              have hiN : ii < 15 := hlt9
              have casesN : ii = 0 ∨ ii = 1 ∨ ii = 2 ∨ ii = 3 ∨ ii = 4 ∨ ii = 5 ∨ ii = 6 ∨ ii = 7 ∨ ii = 8 ∨ ii = 9 ∨ ii = 10 ∨ ii = 11 ∨ ii = 12 ∨ ii = 13 ∨ ii = 14 := by omega
              have hn0 : L ii = false := by rw [← hL ii]; exact not_bit hnot
              clear hi hlt9 hnot
              unfold frMakeReg
              rcases casesN with rfl | rfl | rfl | rfl | rfl | rfl | rfl | rfl | rfl | rfl | rfl | rfl | rfl | rfl | rfl
              · -- operation 0
                have nS : L 14 = false := by cases hh9 : L 14 with | false => rfl | true => exact (by rw [I.kS hh9 0 (by omega)] at hn0; cases hn0)
                refine wpOp_step rfl (fun K' hK => ?_)
                go_simp
                exact hK _ _ ⟨_, bit_set hL hsz 0 (by omega), fun jx => if jx = 133 then .pointer (some ⟨h, 0, none⟩) else s jx, by first | (simp [frMakeReg]; done) | (simp [frMakeReg]; rfl), by simpa using hsz, ⟨I.x, (fun h => absurd (show L 14 = true from h) (by rw [nS]; decide)), (fun h i hi => by simp [I.kN h i hi]), (fun h => by simp [I.kM h]), I.k12, I.kb, I.o0, I.o1, I.o2, (fun h => absurd (show L 14 = true from h) (by rw [nS]; decide)), fun _ => rfl, I.v1, I.v2, I.v5, I.v6, I.v7, I.v8, I.v9, I.v10, I.v12, I.v13, I.b3⟩⟩
              · -- operation 1
                have nS : L 14 = false := by cases hh9 : L 14 with | false => rfl | true => exact (by rw [I.kS hh9 1 (by omega)] at hn0; cases hn0)
                refine wpOp_step rfl (fun K' hK => ?_)
                go_simp
                exact hK _ _ ⟨_, bit_set hL hsz 1 (by omega), fun jx => if jx = 134 then v19 else s jx, by first | (simp [frMakeReg]; done) | (simp [frMakeReg]; rfl), by simpa using hsz, ⟨I.x, (fun h => absurd (show L 14 = true from h) (by rw [nS]; decide)), (fun h i hi => by simp [I.kN h i hi]), (fun h => by simp [I.kM h]), I.k12, I.kb, I.o0, I.o1, I.o2, (fun h => absurd (show L 14 = true from h) (by rw [nS]; decide)), I.v0, fun _ => rfl, I.v2, I.v5, I.v6, I.v7, I.v8, I.v9, I.v10, I.v12, I.v13, I.b3⟩⟩
              · -- operation 2
                have nS : L 14 = false := by cases hh9 : L 14 with | false => rfl | true => exact (by rw [I.kS hh9 2 (by omega)] at hn0; cases hn0)
                obtain ⟨g1, g2, g3⟩ := (BXK.out.ext (I.x nS)).rules
                refine wpOp_step rfl (fun K' hK => ?_)
                go_simp
                exact hK _ _ ⟨_, bit_set hL hsz 2 (by omega), fun jx => if jx = 135 then .agg #[.int .i64 ((k' : Int) + 1), .int .i64 (3 + (W : Int)), .int .i64 3, .int .i64 cls, .int .i64 hash, .slice none 0 0, .slice (some ⟨gy, 0, none⟩) nb nb, .int .i64 0, .bool false] else s jx, by first | (simp [frMakeReg]; done) | (simp [frMakeReg]; rfl), by simpa using hsz, ⟨I.x, (fun h => absurd (show L 14 = true from h) (by rw [nS]; decide)), (fun h i hi => by simp [I.kN h i hi]), (fun h => by simp [I.kM h]), I.k12, I.kb, I.o0, I.o1, I.o2, (fun h => absurd (show L 14 = true from h) (by rw [nS]; decide)), I.v0, I.v1, fun _ => rfl, I.v5, I.v6, I.v7, I.v8, I.v9, I.v10, I.v12, I.v13, I.b3⟩⟩
              · -- operation 3
                simp [hL, Region.binds] at hdep
                have d2 : L 2 = true := by simp [hdep]
                have nS : L 14 = false := by cases hh9 : L 14 with | false => rfl | true => exact (by rw [I.kS hh9 3 (by omega)] at hn0; cases hn0)
                have n1 : L 4 = false := by cases hh9 : L 4 with | false => rfl | true => exact (by rw [I.kb hh9] at hn0; cases hn0)
                have n2 : L 11 = false := by cases hh9 : L 11 with | false => rfl | true => exact (by rw [I.k12 hh9] at n1; cases n1)
                have e2 := I.v2 d2
                refine wpOp_step rfl (fun K' hK => ?_)
                rw [e2]
                go_simp
                have x9 : Ext w9 (w9.alloc (.cells #[.int .i64 ((k' : Int) + 1), .int .i64 (3 + (W : Int)), .int .i64 3, .int .i64 cls, .int .i64 hash, .slice none 0 0, .slice (some ⟨gy, 0, none⟩) nb nb, .int .i64 0, .bool false] 47)) := (Ext.refl w9).alloc _
                exact hK _ _ ⟨_, bit_set hL hsz 3 (by omega), fun jx => if jx = 136 then .slice (some ⟨w9.heap.size, 0, none⟩) 1 1 else s jx, by first | (simp [frMakeReg, e2]; done) | (simp [frMakeReg, e2]; rfl), by simpa using hsz, ⟨(fun _ => (I.x nS).trans x9), (fun h => absurd (show L 14 = true from h) (by rw [nS]; decide)), (fun h i hi => by simp [I.kN h i hi]), (fun h => by simp [I.kM h]), I.k12, (fun _ => rfl), (fun h => (I.o0 h).ext x9), (fun h => absurd (show L 4 = true from h) (by rw [n1]; decide)), (fun h => absurd (show L 11 = true from h) (by rw [n2]; decide)), (fun h => absurd (show L 14 = true from h) (by rw [nS]; decide)), I.v0, I.v1, I.v2, I.v5, I.v6, I.v7, I.v8, I.v9, I.v10, I.v12, I.v13, (fun _ _ => ⟨_, rfl, Blk.new _ _ _⟩)⟩⟩
              · -- operation 4
                simp [hL, Region.binds] at hdep
                have d1 : L 1 = true := by simp [hdep]
                have d3 : L 3 = true := by simp [hdep]
                have nS : L 14 = false := by cases hh9 : L 14 with | false => rfl | true => exact (by rw [I.kS hh9 4 (by omega)] at hn0; cases hn0)
                have n2 : L 11 = false := by cases hh9 : L 11 with | false => rfl | true => exact (by rw [I.k12 hh9] at hn0; cases hn0)
                have e1 := I.v1 d1
                obtain ⟨bb, e3, hbb⟩ := I.b3 d3 hn0
                have TT := I.o0 hn0
                have SS : SrcO w9 (some ⟨bb, 0, none⟩) 1 [.int .i64 ((k' : Int) + 1), .int .i64 (3 + (W : Int)), .int .i64 3, .int .i64 cls, .int .i64 hash, .slice none 0 0, .slice (some ⟨gy, 0, none⟩) nb nb, .int .i64 0, .bool false] := srcO_blk hbb rfl ONE.out
                refine wpOp_step rfl (fun K' hK => ?_)
                try rw [e1, e3]
                refine step_O (.tmp 134) (.tmp 136) (by rfl) (by rfl) (by rfl) (by rfl) TT SS (by omega) ?_
                intro v9 w10 T9
                exact hK _ _ ⟨_, bit_set hL hsz 4 (by omega), fun jx => if jx = 137 then v9 else s jx, by first | (simp [frMakeReg, Act.put, e1, e3]; done) | (simp [frMakeReg, Act.put, e1, e3]; rfl), by simpa using hsz, ⟨(fun _ => T9.x), (fun h => absurd (show L 14 = true from h) (by rw [nS]; decide)), (fun h i hi => by simp [I.kN h i hi]), (fun h => by simp [I.kM h]), (fun h => absurd (show L 11 = true from h) (by rw [n2]; decide)), (fun _ => d3), (fun h => absurd h (by simp)), (fun _ _ => T9), (fun h => absurd (show L 11 = true from h) (by rw [n2]; decide)), (fun h => absurd (show L 14 = true from h) (by rw [nS]; decide)), I.v0, I.v1, I.v2, I.v5, I.v6, I.v7, I.v8, I.v9, I.v10, I.v12, I.v13, (fun _ h => absurd h (by simp))⟩⟩
              · -- operation 5
                have nS : L 14 = false := by cases hh9 : L 14 with | false => rfl | true => exact (by rw [I.kS hh9 5 (by omega)] at hn0; cases hn0)
                refine wpOp_step rfl (fun K' hK => ?_)
                go_simp
                exact hK _ _ ⟨_, bit_set hL hsz 5 (by omega), fun jx => if jx = 138 then .pointer (some ⟨h, 0, none⟩) else s jx, by first | (simp [frMakeReg]; done) | (simp [frMakeReg]; rfl), by simpa using hsz, ⟨I.x, (fun h => absurd (show L 14 = true from h) (by rw [nS]; decide)), (fun h i hi => by simp [I.kN h i hi]), (fun h => by simp [I.kM h]), I.k12, I.kb, I.o0, I.o1, I.o2, (fun h => absurd (show L 14 = true from h) (by rw [nS]; decide)), I.v0, I.v1, I.v2, fun _ => rfl, I.v6, I.v7, I.v8, I.v9, I.v10, I.v12, I.v13, I.b3⟩⟩
              · -- operation 6
                simp [hL, Region.binds] at hdep
                have d5 : L 5 = true := by simp [hdep]
                have nS : L 14 = false := by cases hh9 : L 14 with | false => rfl | true => exact (by rw [I.kS hh9 6 (by omega)] at hn0; cases hn0)
                have e5 := I.v5 d5
                refine wpOp_step rfl (fun K' hK => ?_)
                rw [e5]
                go_simp
                exact hK _ _ ⟨_, bit_set hL hsz 6 (by omega), fun jx => if jx = 139 then .pointer (some ⟨h, 0, none⟩) else s jx, by first | (simp [frMakeReg, e5]; done) | (simp [frMakeReg, e5]; rfl), by simpa using hsz, ⟨I.x, (fun h => absurd (show L 14 = true from h) (by rw [nS]; decide)), (fun h i hi => by simp [I.kN h i hi]), (fun h => by simp [I.kM h]), I.k12, I.kb, I.o0, I.o1, I.o2, (fun h => absurd (show L 14 = true from h) (by rw [nS]; decide)), I.v0, I.v1, I.v2, I.v5, fun _ => rfl, I.v7, I.v8, I.v9, I.v10, I.v12, I.v13, I.b3⟩⟩
              · -- operation 7
                simp [hL, Region.binds] at hdep
                have d6 : L 6 = true := by simp [hdep]
                have nS : L 14 = false := by cases hh9 : L 14 with | false => rfl | true => exact (by rw [I.kS hh9 7 (by omega)] at hn0; cases hn0)
                have e6 := I.v6 d6
                refine wpOp_step rfl (fun K' hK => ?_)
                rw [e6]
                go_simp
                exact hK _ _ ⟨_, bit_set hL hsz 7 (by omega), fun jx => if jx = 140 then .pointer (some ⟨h, 0, none⟩) else s jx, by first | (simp [frMakeReg, e6]; done) | (simp [frMakeReg, e6]; rfl), by simpa using hsz, ⟨I.x, (fun h => absurd (show L 14 = true from h) (by rw [nS]; decide)), (fun h i hi => by simp [I.kN h i hi]), (fun h => by simp [I.kM h]), I.k12, I.kb, I.o0, I.o1, I.o2, (fun h => absurd (show L 14 = true from h) (by rw [nS]; decide)), I.v0, I.v1, I.v2, I.v5, I.v6, fun _ => rfl, I.v8, I.v9, I.v10, I.v12, I.v13, I.b3⟩⟩
              · -- operation 8
                simp [hL, Region.binds] at hdep
                have d7 : L 7 = true := by simp [hdep]
                have nS : L 14 = false := by cases hh9 : L 14 with | false => rfl | true => exact (by rw [I.kS hh9 8 (by omega)] at hn0; cases hn0)
                have e7 := I.v7 d7
                obtain ⟨g1, g2, g3⟩ := (HBK.out.ext (I.x nS)).rules
                refine wpOp_step rfl (fun K' hK => ?_)
                rw [e7]
                go_simp
                exact hK _ _ ⟨_, bit_set hL hsz 8 (by omega), fun jx => if jx = 141 then .slice (some ⟨g9, 0, none⟩) lq c0' else s jx, by first | (simp [frMakeReg, e7]; done) | (simp [frMakeReg, e7]; rfl), by simpa using hsz, ⟨I.x, (fun h => absurd (show L 14 = true from h) (by rw [nS]; decide)), (fun h i hi => by simp [I.kN h i hi]), (fun h => by simp [I.kM h]), I.k12, I.kb, I.o0, I.o1, I.o2, (fun h => absurd (show L 14 = true from h) (by rw [nS]; decide)), I.v0, I.v1, I.v2, I.v5, I.v6, I.v7, fun _ => rfl, I.v9, I.v10, I.v12, I.v13, I.b3⟩⟩
              · -- operation 9
                have nS : L 14 = false := by cases hh9 : L 14 with | false => rfl | true => exact (by rw [I.kS hh9 9 (by omega)] at hn0; cases hn0)
                refine wpOp_step rfl (fun K' hK => ?_)
                go_simp
                exact hK _ _ ⟨_, bit_set hL hsz 9 (by omega), fun jx => if jx = 142 then .int .i64 (t : Int) else s jx, by first | (simp [frMakeReg]; done) | (simp [frMakeReg]; rfl), by simpa using hsz, ⟨I.x, (fun h => absurd (show L 14 = true from h) (by rw [nS]; decide)), (fun h i hi => by simp [I.kN h i hi]), (fun h => by simp [I.kM h]), I.k12, I.kb, I.o0, I.o1, I.o2, (fun h => absurd (show L 14 = true from h) (by rw [nS]; decide)), I.v0, I.v1, I.v2, I.v5, I.v6, I.v7, I.v8, fun _ => rfl, I.v10, I.v12, I.v13, I.b3⟩⟩
              · -- operation 10
                simp [hL, Region.binds] at hdep
                have d8 : L 8 = true := by simp [hdep]
                have d9 : L 9 = true := by simp [hdep]
                have nS : L 14 = false := by cases hh9 : L 14 with | false => rfl | true => exact (by rw [I.kS hh9 10 (by omega)] at hn0; cases hn0)
                have e8 := I.v8 d8
                have e9 := I.v9 d9
                refine wpOp_step rfl (fun K' hK => ?_)
                rw [e8, e9]
                go_simp
                exact hK _ _ ⟨_, bit_set hL hsz 10 (by omega), fun jx => if jx = 143 then .slice A2 B.length c2 else s jx, by first | (simp [frMakeReg, e8, e9]; done) | (simp [frMakeReg, e8, e9]; rfl), by simpa using hsz, ⟨I.x, (fun h => absurd (show L 14 = true from h) (by rw [nS]; decide)), (fun h i hi => by simp [I.kN h i hi]), (fun h => by simp [I.kM h]), I.k12, I.kb, I.o0, I.o1, I.o2, (fun h => absurd (show L 14 = true from h) (by rw [nS]; decide)), I.v0, I.v1, I.v2, I.v5, I.v6, I.v7, I.v8, I.v9, fun _ => rfl, I.v12, I.v13, I.b3⟩⟩
              · -- operation 11
                simp [hL, Region.binds] at hdep
                have d4 : L 4 = true := by simp [hdep]
                have d10 : L 10 = true := by simp [hdep]
                have nS : L 14 = false := by cases hh9 : L 14 with | false => rfl | true => exact (by rw [I.kS hh9 11 (by omega)] at hn0; cases hn0)
                have e10 := I.v10 d10
                have TT := I.o1 d4 hn0
                have SS := SBH.out.ext (I.x nS)
                refine wpOp_step rfl (fun K' hK => ?_)
                try rw [e10]
                refine step_O (.tmp 137) (.tmp 143) (by rfl) (by rfl) (by rfl) (by rfl) TT SS (by omega) ?_
                intro v9 w10 T9
                exact hK _ _ ⟨_, bit_set hL hsz 11 (by omega), fun jx => if jx = 144 then v9 else s jx, by first | (simp [frMakeReg, Act.put, e10]; done) | (simp [frMakeReg, Act.put, e10]; rfl), by simpa using hsz, ⟨(fun _ => T9.x), (fun h => absurd (show L 14 = true from h) (by rw [nS]; decide)), (fun h i hi => by simp [I.kN h i hi]), (fun h => by simp [I.kM h]), (fun _ => d4), I.kb, (fun h => absurd (show L 4 = false from h) (by rw [d4]; decide)), (fun _ h => absurd h (by simp)), (fun _ _ => T9), (fun h => absurd (show L 14 = true from h) (by rw [nS]; decide)), I.v0, I.v1, I.v2, I.v5, I.v6, I.v7, I.v8, I.v9, I.v10, I.v12, I.v13, (fun _ h => absurd (show L 4 = false from h) (by rw [d4]; decide))⟩⟩
              · -- operation 12
                have NALL : ∀ i, i < 12 → L i = true := by
                  intro i hi9
                  simp [hL, Region.binds] at hdep
                  rcases (show i = 0 ∨ i = 1 ∨ i = 2 ∨ i = 3 ∨ i = 4 ∨ i = 5 ∨ i = 6 ∨ i = 7 ∨ i = 8 ∨ i = 9 ∨ i = 10 ∨ i = 11 by omega) with rfl | rfl | rfl | rfl | rfl | rfl | rfl | rfl | rfl | rfl | rfl | rfl <;> simp [hdep]
                simp [hL, Region.binds] at hdep
                have d0 : L 0 = true := by simp [hdep]
                have nS : L 14 = false := by cases hh9 : L 14 with | false => rfl | true => exact (by rw [I.kS hh9 12 (by omega)] at hn0; cases hn0)
                have e0 := I.v0 d0
                refine wpOp_step rfl (fun K' hK => ?_)
                rw [e0]
                go_simp
                exact hK _ _ ⟨_, bit_set hL hsz 12 (by omega), fun jx => if jx = 145 then .pointer (some ⟨h, 0, none⟩) else s jx, by first | (simp [frMakeReg, e0]; done) | (simp [frMakeReg, e0]; rfl), by simpa using hsz, ⟨I.x, (fun h => absurd (show L 14 = true from h) (by rw [nS]; decide)), (fun _ i hi => by simp [NALL i hi]), (fun _ => rfl), I.k12, I.kb, I.o0, I.o1, I.o2, (fun h => absurd (show L 14 = true from h) (by rw [nS]; decide)), I.v0, I.v1, I.v2, I.v5, I.v6, I.v7, I.v8, I.v9, I.v10, fun _ => rfl, I.v13, I.b3⟩⟩
              · -- operation 13
                simp [hL, Region.binds] at hdep
                have d12 : L 12 = true := by simp [hdep]
                have nS : L 14 = false := by cases hh9 : L 14 with | false => rfl | true => exact (by rw [I.kS hh9 13 (by omega)] at hn0; cases hn0)
                have e12 := I.v12 d12
                refine wpOp_step rfl (fun K' hK => ?_)
                rw [e12]
                go_simp
                exact hK _ _ ⟨_, bit_set hL hsz 13 (by omega), fun jx => if jx = 146 then .pointer (some ⟨h, 0, none⟩) else s jx, by first | (simp [frMakeReg, e12]; done) | (simp [frMakeReg, e12]; rfl), by simpa using hsz, ⟨I.x, (fun h => absurd (show L 14 = true from h) (by rw [nS]; decide)), (fun h i hi => by simp [I.kN h i hi]), (fun _ => d12), I.k12, I.kb, I.o0, I.o1, I.o2, (fun h => absurd (show L 14 = true from h) (by rw [nS]; decide)), I.v0, I.v1, I.v2, I.v5, I.v6, I.v7, I.v8, I.v9, I.v10, I.v12, fun _ => rfl, I.b3⟩⟩
              · -- operation 14
                simp [hL, Region.binds] at hdep
                have d11 : L 11 = true := by simp [hdep]
                have d13 : L 13 = true := by simp [hdep]
                have e13 := I.v13 d13
                have DALL : ∀ i, i < 14 → L i = true := by
                  intro i hi9
                  have dN := I.kM d13
                  rcases (show i < 12 ∨ i = 12 ∨ i = 13 by omega) with h9 | rfl | rfl
                  · exact I.kN dN i h9
                  · exact dN
                  · exact d13
                have TT := I.o2 d11 hn0
                obtain ⟨A9, c9, hv9, _, _⟩ := own_form TT.own
                obtain ⟨g1, g2, g3⟩ := (HBK.out.ext (I.x hn0)).rules
                refine wpOp_step rfl (fun K' hK => ?_)
                rw [hv9, e13]
                go_simp
                exact hK _ _ ⟨_, bit_set hL hsz 14 (by omega), s, by first | (simp [frMakeReg, e13, hv9]; done) | (simp [frMakeReg, e13, hv9]; rfl), by simpa using hsz, ⟨(fun h => absurd h (by simp)), (fun _ i hi => by simp [DALL i hi]), (fun h i hi => by simp [I.kN h i hi]), (fun h => by simp [I.kM h]), I.k12, I.kb, (fun h => absurd (show L 4 = false from h) (by rw [DALL 4 (by omega)]; decide)), (fun _ h => absurd (show L 11 = false from h) (by rw [d11]; decide)), (fun _ h => absurd h (by simp)), (fun _ => ⟨_, w9, TT, by first | (rw [hv9]; done) | (rw [hv9]; rfl) | (rw [hv9]; simp; done) | (rw [hv9]; simp only [Nat.zero_add])⟩), I.v0, I.v1, I.v2, I.v5, I.v6, I.v7, I.v8, I.v9, I.v10, I.v12, I.v13, (fun _ h => absurd (show L 4 = false from h) (by rw [DALL 4 (by omega)]; decide))⟩⟩
            · rintro listed act w9 ⟨L, hL, s, rfl, hsz, I⟩ hr
              have ALL : ∀ i, i < 15 → L i = true := fun i hi => by rw [← hL i]; exact all_listed (by kernel_rfl) hsz hr i hi
              obtain ⟨v9, w10, T9, rfl⟩ := I.es (ALL 14 (by omega))
              clear hL ALL hr hsz I
              unfold frMakeReg
              dsimp only
              have BZ : Blk (w10.setCell ⟨h, 0, none⟩ v9) bx 47 _ := (BXK.out.ext T9.x).keep ((Keep.refl (· = h) w10).setCell (p := ⟨h, 0, none⟩) rfl v9) ((BXK.out.ext T9.x).ne (HBK.out.ext T9.x) (by decide))
              obtain ⟨s1, s2, s3⟩ := BZ.rules
              have E1 := LA.out
              obtain ⟨z1, z2⟩ := H1.out.inserted (A := A) (B := B) (w20 := w20) (XH.out.trans X20.out) ⟨⟨k', W, 3, cls, hash, [], List.replicate nb 0, 0, false⟩, .slice none 0 0, .slice (some ⟨gy, 0, none⟩) nb nb⟩ T9.x (World.ownsRow_nil _ _ _ _) (own_keep OH.out (Keep.of_ext X20.out (fun _ => False)) (fun _ _ h => h)) T9.own (by simp [E1] <;> omega) (by rw [rowO_app, rowO_cons]; simp [cellsO]) (by have := LQ.out; omega)
              have Z1 := Lib.hid z1
              have Z2 := Lib.hid ((R1.out.trans (RK.of_ext (XH.out.trans X20.out))).trans z2)
              clear z1 z2 BZ
              go_wp2_with fail
              go_ret2
              exact ⟨rfl, ⟨_, _, _, Z1.out⟩, Z2.out⟩
          · try clear hq
            obtain ⟨e7, e8⟩ := PKH.out.2.2 (by trivial)
            subst e7 e8
            have e9 : B = [] := List.eq_nil_of_length_eq_zero a4
            subst e9
            have X0 := Lib.hid (T19.x.trans (Ext.refl w21).drew)
            have T0 := Lib.hid (T19.ext (Ext.refl w21).drew)
            clear HBK
            have HBK := HB2
            have BXK := Lib.hid (BH.out.ext X20.out)
            have SBH := Lib.hid PKH.out.1
            have S2 := PKH.out.2.1
            have ONE : Hid (∀ u ∈ ([.int .i64 ((k' : Int) + 1), .int .i64 (3 + (W : Int)), .int .i64 3, .int .i64 cls, .int .i64 hash, .slice none 0 0, .slice (some ⟨gy, 0, none⟩) nb nb, .int .i64 0, .bool false] : List Value), u.oneCell' = true) := Lib.hid (by
              intro u hu
              simp only [List.mem_cons, List.not_mem_nil, or_false] at hu
              rcases hu with rfl | rfl | rfl | rfl | rfl | rfl | rfl | rfl | rfl <;> rfl)
            clear T19 r1 r2 r3
            go_wp2_with fail
            refine wp_any_act (fun A' hA => ?_)
            have eA : A' = frMakeReg w20 h bx 0 0 0 none v19 (0 + 0) ([] ++ rowO A) 1 [.int .i64 ((k' : Int) + 1), .int .i64 (3 + (W : Int)), .int .i64 3, .int .i64 cls, .int .i64 hash, .slice none 0 0, .slice (some ⟨gy, 0, none⟩) nb nb, .int .i64 0, .bool false] 0 0 none (rowO []) k' W 3 cls hash none (some ⟨gy, 0, none⟩) 0 0 nb nb (fun q => A'.tmps.getD q undef) (fun q => A'.tmps.getD q undef) := by rw [hA]; rfl
            obtain ⟨uu, huu⟩ : ∃ uu, (fun q => A'.tmps.getD q undef) = uu := ⟨_, rfl⟩
            rw [huu] at eA
            clear hA huu
            subst eA
            refine wp_region_inv (Inv := MakeRegInv w20 h bx 0 0 0 none v19 (0 + 0) ([] ++ rowO A) 1 [.int .i64 ((k' : Int) + 1), .int .i64 (3 + (W : Int)), .int .i64 3, .int .i64 cls, .int .i64 hash, .slice none 0 0, .slice (some ⟨gy, 0, none⟩) nb nb, .int .i64 0, .bool false] 0 0 none (rowO []) k' W 3 cls hash none (some ⟨gy, 0, none⟩) 0 0 nb nb uu) (by kernel_rfl) ?_ ?_ ?_
            · refine ⟨fun _ => false, fun k => ?_, uu, rfl, by simp, ⟨fun _ => X0.out, ?_, ?_, ?_, ?_, ?_, fun _ => T0.out, ?_, ?_, ?_, ?_, ?_, ?_, ?_, ?_, ?_, ?_, ?_, ?_, ?_, ?_, ?_⟩⟩
              · rw [Array.getD_eq_getD_getElem?, Array.getElem?_replicate]; split <;> rfl
              all_goals (intro h; cases h)
            · rintro listed act w9 ii ⟨L, hL, s, rfl, hsz, I⟩ hi
              obtain ⟨hlt9, hnot, hdep⟩ := (ready_iff _ _).1 hi
              have hiN : ii < 15 := hlt9
              have casesN : ii = 0 ∨ ii = 1 ∨ ii = 2 ∨ ii = 3 ∨ ii = 4 ∨ ii = 5 ∨ ii = 6 ∨ ii = 7 ∨ ii = 8 ∨ ii = 9 ∨ ii = 10 ∨ ii = 11 ∨ ii = 12 ∨ ii = 13 ∨ ii = 14 := by omega
              have hn0 : L ii = false := by rw [← hL ii]; exact not_bit hnot
              clear hi hlt9 hnot
              unfold frMakeReg
              rcases casesN with rfl | rfl | rfl | rfl | rfl | rfl | rfl | rfl | rfl | rfl | rfl | rfl | rfl | rfl | rfl
              · -- operation 0
                have nS : L 14 = false := by cases hh9 : L 14 with | false => rfl | true => exact (by rw [I.kS hh9 0 (by omega)] at hn0; cases hn0)
                refine wpOp_step rfl (fun K' hK => ?_)
                go_simp
                exact hK _ _ ⟨_, bit_set hL hsz 0 (by omega), fun jx => if jx = 133 then .pointer (some ⟨h, 0, none⟩) else s jx, by first | (simp [frMakeReg]; done) | (simp [frMakeReg]; rfl), by simpa using hsz, ⟨I.x, (fun h => absurd (show L 14 = true from h) (by rw [nS]; decide)), (fun h i hi => by simp [I.kN h i hi]), (fun h => by simp [I.kM h]), I.k12, I.kb, I.o0, I.o1, I.o2, (fun h => absurd (show L 14 = true from h) (by rw [nS]; decide)), fun _ => rfl, I.v1, I.v2, I.v5, I.v6, I.v7, I.v8, I.v9, I.v10, I.v12, I.v13, I.b3⟩⟩
              · -- operation 1
                have nS : L 14 = false := by cases hh9 : L 14 with | false => rfl | true => exact (by rw [I.kS hh9 1 (by omega)] at hn0; cases hn0)
                refine wpOp_step rfl (fun K' hK => ?_)
                go_simp
                exact hK _ _ ⟨_, bit_set hL hsz 1 (by omega), fun jx => if jx = 134 then v19 else s jx, by first | (simp [frMakeReg]; done) | (simp [frMakeReg]; rfl), by simpa using hsz, ⟨I.x, (fun h => absurd (show L 14 = true from h) (by rw [nS]; decide)), (fun h i hi => by simp [I.kN h i hi]), (fun h => by simp [I.kM h]), I.k12, I.kb, I.o0, I.o1, I.o2, (fun h => absurd (show L 14 = true from h) (by rw [nS]; decide)), I.v0, fun _ => rfl, I.v2, I.v5, I.v6, I.v7, I.v8, I.v9, I.v10, I.v12, I.v13, I.b3⟩⟩
              · -- operation 2
                have nS : L 14 = false := by cases hh9 : L 14 with | false => rfl | true => exact (by rw [I.kS hh9 2 (by omega)] at hn0; cases hn0)
                obtain ⟨g1, g2, g3⟩ := (BXK.out.ext (I.x nS)).rules
                refine wpOp_step rfl (fun K' hK => ?_)
                go_simp
                exact hK _ _ ⟨_, bit_set hL hsz 2 (by omega), fun jx => if jx = 135 then .agg #[.int .i64 ((k' : Int) + 1), .int .i64 (3 + (W : Int)), .int .i64 3, .int .i64 cls, .int .i64 hash, .slice none 0 0, .slice (some ⟨gy, 0, none⟩) nb nb, .int .i64 0, .bool false] else s jx, by first | (simp [frMakeReg]; done) | (simp [frMakeReg]; rfl), by simpa using hsz, ⟨I.x, (fun h => absurd (show L 14 = true from h) (by rw [nS]; decide)), (fun h i hi => by simp [I.kN h i hi]), (fun h => by simp [I.kM h]), I.k12, I.kb, I.o0, I.o1, I.o2, (fun h => absurd (show L 14 = true from h) (by rw [nS]; decide)), I.v0, I.v1, fun _ => rfl, I.v5, I.v6, I.v7, I.v8, I.v9, I.v10, I.v12, I.v13, I.b3⟩⟩
              · -- operation 3
                simp [hL, Region.binds] at hdep
                have d2 : L 2 = true := by simp [hdep]
                have nS : L 14 = false := by cases hh9 : L 14 with | false => rfl | true => exact (by rw [I.kS hh9 3 (by omega)] at hn0; cases hn0)
                have n1 : L 4 = false := by cases hh9 : L 4 with | false => rfl | true => exact (by rw [I.kb hh9] at hn0; cases hn0)
                have n2 : L 11 = false := by cases hh9 : L 11 with | false => rfl | true => exact (by rw [I.k12 hh9] at n1; cases n1)
                have e2 := I.v2 d2
                refine wpOp_step rfl (fun K' hK => ?_)
                rw [e2]
                go_simp
                have x9 : Ext w9 (w9.alloc (.cells #[.int .i64 ((k' : Int) + 1), .int .i64 (3 + (W : Int)), .int .i64 3, .int .i64 cls, .int .i64 hash, .slice none 0 0, .slice (some ⟨gy, 0, none⟩) nb nb, .int .i64 0, .bool false] 47)) := (Ext.refl w9).alloc _
                exact hK _ _ ⟨_, bit_set hL hsz 3 (by omega), fun jx => if jx = 136 then .slice (some ⟨w9.heap.size, 0, none⟩) 1 1 else s jx, by first | (simp [frMakeReg, e2]; done) | (simp [frMakeReg, e2]; rfl), by simpa using hsz, ⟨(fun _ => (I.x nS).trans x9), (fun h => absurd (show L 14 = true from h) (by rw [nS]; decide)), (fun h i hi => by simp [I.kN h i hi]), (fun h => by simp [I.kM h]), I.k12, (fun _ => rfl), (fun h => (I.o0 h).ext x9), (fun h => absurd (show L 4 = true from h) (by rw [n1]; decide)), (fun h => absurd (show L 11 = true from h) (by rw [n2]; decide)), (fun h => absurd (show L 14 = true from h) (by rw [nS]; decide)), I.v0, I.v1, I.v2, I.v5, I.v6, I.v7, I.v8, I.v9, I.v10, I.v12, I.v13, (fun _ _ => ⟨_, rfl, Blk.new _ _ _⟩)⟩⟩
              · -- operation 4
                simp [hL, Region.binds] at hdep
                have d1 : L 1 = true := by simp [hdep]
                have d3 : L 3 = true := by simp [hdep]
                have nS : L 14 = false := by cases hh9 : L 14 with | false => rfl | true => exact (by rw [I.kS hh9 4 (by omega)] at hn0; cases hn0)
                have n2 : L 11 = false := by cases hh9 : L 11 with | false => rfl | true => exact (by rw [I.k12 hh9] at hn0; cases hn0)
                have e1 := I.v1 d1
                obtain ⟨bb, e3, hbb⟩ := I.b3 d3 hn0
                have TT := I.o0 hn0
                have SS : SrcO w9 (some ⟨bb, 0, none⟩) 1 [.int .i64 ((k' : Int) + 1), .int .i64 (3 + (W : Int)), .int .i64 3, .int .i64 cls, .int .i64 hash, .slice none 0 0, .slice (some ⟨gy, 0, none⟩) nb nb, .int .i64 0, .bool false] := srcO_blk hbb rfl ONE.out
                refine wpOp_step rfl (fun K' hK => ?_)
                try rw [e1, e3]
                refine step_O (.tmp 134) (.tmp 136) (by rfl) (by rfl) (by rfl) (by rfl) TT SS (by omega) ?_
                intro v9 w10 T9
                exact hK _ _ ⟨_, bit_set hL hsz 4 (by omega), fun jx => if jx = 137 then v9 else s jx, by first | (simp [frMakeReg, Act.put, e1, e3]; done) | (simp [frMakeReg, Act.put, e1, e3]; rfl), by simpa using hsz, ⟨(fun _ => T9.x), (fun h => absurd (show L 14 = true from h) (by rw [nS]; decide)), (fun h i hi => by simp [I.kN h i hi]), (fun h => by simp [I.kM h]), (fun h => absurd (show L 11 = true from h) (by rw [n2]; decide)), (fun _ => d3), (fun h => absurd h (by simp)), (fun _ _ => T9), (fun h => absurd (show L 11 = true from h) (by rw [n2]; decide)), (fun h => absurd (show L 14 = true from h) (by rw [nS]; decide)), I.v0, I.v1, I.v2, I.v5, I.v6, I.v7, I.v8, I.v9, I.v10, I.v12, I.v13, (fun _ h => absurd h (by simp))⟩⟩
              · -- operation 5
                have nS : L 14 = false := by cases hh9 : L 14 with | false => rfl | true => exact (by rw [I.kS hh9 5 (by omega)] at hn0; cases hn0)
                refine wpOp_step rfl (fun K' hK => ?_)
                go_simp
                exact hK _ _ ⟨_, bit_set hL hsz 5 (by omega), fun jx => if jx = 138 then .pointer (some ⟨h, 0, none⟩) else s jx, by first | (simp [frMakeReg]; done) | (simp [frMakeReg]; rfl), by simpa using hsz, ⟨I.x, (fun h => absurd (show L 14 = true from h) (by rw [nS]; decide)), (fun h i hi => by simp [I.kN h i hi]), (fun h => by simp [I.kM h]), I.k12, I.kb, I.o0, I.o1, I.o2, (fun h => absurd (show L 14 = true from h) (by rw [nS]; decide)), I.v0, I.v1, I.v2, fun _ => rfl, I.v6, I.v7, I.v8, I.v9, I.v10, I.v12, I.v13, I.b3⟩⟩
              · -- operation 6
                simp [hL, Region.binds] at hdep
                have d5 : L 5 = true := by simp [hdep]
                have nS : L 14 = false := by cases hh9 : L 14 with | false => rfl | true => exact (by rw [I.kS hh9 6 (by omega)] at hn0; cases hn0)
                have e5 := I.v5 d5
                refine wpOp_step rfl (fun K' hK => ?_)
                rw [e5]
                go_simp
                exact hK _ _ ⟨_, bit_set hL hsz 6 (by omega), fun jx => if jx = 139 then .pointer (some ⟨h, 0, none⟩) else s jx, by first | (simp [frMakeReg, e5]; done) | (simp [frMakeReg, e5]; rfl), by simpa using hsz, ⟨I.x, (fun h => absurd (show L 14 = true from h) (by rw [nS]; decide)), (fun h i hi => by simp [I.kN h i hi]), (fun h => by simp [I.kM h]), I.k12, I.kb, I.o0, I.o1, I.o2, (fun h => absurd (show L 14 = true from h) (by rw [nS]; decide)), I.v0, I.v1, I.v2, I.v5, fun _ => rfl, I.v7, I.v8, I.v9, I.v10, I.v12, I.v13, I.b3⟩⟩
              · -- operation 7
                simp [hL, Region.binds] at hdep
                have d6 : L 6 = true := by simp [hdep]
                have nS : L 14 = false := by cases hh9 : L 14 with | false => rfl | true => exact (by rw [I.kS hh9 7 (by omega)] at hn0; cases hn0)
                have e6 := I.v6 d6
                refine wpOp_step rfl (fun K' hK => ?_)
                rw [e6]
                go_simp
                exact hK _ _ ⟨_, bit_set hL hsz 7 (by omega), fun jx => if jx = 140 then .pointer (some ⟨h, 0, none⟩) else s jx, by first | (simp [frMakeReg, e6]; done) | (simp [frMakeReg, e6]; rfl), by simpa using hsz, ⟨I.x, (fun h => absurd (show L 14 = true from h) (by rw [nS]; decide)), (fun h i hi => by simp [I.kN h i hi]), (fun h => by simp [I.kM h]), I.k12, I.kb, I.o0, I.o1, I.o2, (fun h => absurd (show L 14 = true from h) (by rw [nS]; decide)), I.v0, I.v1, I.v2, I.v5, I.v6, fun _ => rfl, I.v8, I.v9, I.v10, I.v12, I.v13, I.b3⟩⟩
              · -- operation 8
                simp [hL, Region.binds] at hdep
                have d7 : L 7 = true := by simp [hdep]
                have nS : L 14 = false := by cases hh9 : L 14 with | false => rfl | true => exact (by rw [I.kS hh9 8 (by omega)] at hn0; cases hn0)
                have e7 := I.v7 d7
                obtain ⟨g1, g2, g3⟩ := (HBK.out.ext (I.x nS)).rules
                refine wpOp_step rfl (fun K' hK => ?_)
                rw [e7]
                go_simp
                exact hK _ _ ⟨_, bit_set hL hsz 8 (by omega), fun jx => if jx = 141 then .slice none 0 0 else s jx, by first | (simp [frMakeReg, e7]; done) | (simp [frMakeReg, e7]; rfl), by simpa using hsz, ⟨I.x, (fun h => absurd (show L 14 = true from h) (by rw [nS]; decide)), (fun h i hi => by simp [I.kN h i hi]), (fun h => by simp [I.kM h]), I.k12, I.kb, I.o0, I.o1, I.o2, (fun h => absurd (show L 14 = true from h) (by rw [nS]; decide)), I.v0, I.v1, I.v2, I.v5, I.v6, I.v7, fun _ => rfl, I.v9, I.v10, I.v12, I.v13, I.b3⟩⟩
              · -- operation 9
                have nS : L 14 = false := by cases hh9 : L 14 with | false => rfl | true => exact (by rw [I.kS hh9 9 (by omega)] at hn0; cases hn0)
                refine wpOp_step rfl (fun K' hK => ?_)
                go_simp
                exact hK _ _ ⟨_, bit_set hL hsz 9 (by omega), fun jx => if jx = 142 then .int .i64 (0 : Int) else s jx, by first | (simp [frMakeReg]; done) | (simp [frMakeReg]; rfl), by simpa using hsz, ⟨I.x, (fun h => absurd (show L 14 = true from h) (by rw [nS]; decide)), (fun h i hi => by simp [I.kN h i hi]), (fun h => by simp [I.kM h]), I.k12, I.kb, I.o0, I.o1, I.o2, (fun h => absurd (show L 14 = true from h) (by rw [nS]; decide)), I.v0, I.v1, I.v2, I.v5, I.v6, I.v7, I.v8, fun _ => rfl, I.v10, I.v12, I.v13, I.b3⟩⟩
              · -- operation 10
                simp [hL, Region.binds] at hdep
                have d8 : L 8 = true := by simp [hdep]
                have d9 : L 9 = true := by simp [hdep]
                have nS : L 14 = false := by cases hh9 : L 14 with | false => rfl | true => exact (by rw [I.kS hh9 10 (by omega)] at hn0; cases hn0)
                have e8 := I.v8 d8
                have e9 := I.v9 d9
                refine wpOp_step rfl (fun K' hK => ?_)
                rw [e8, e9]
                go_simp
                exact hK _ _ ⟨_, bit_set hL hsz 10 (by omega), fun jx => if jx = 143 then .slice none 0 0 else s jx, by first | (simp [frMakeReg, e8, e9]; done) | (simp [frMakeReg, e8, e9]; rfl), by simpa using hsz, ⟨I.x, (fun h => absurd (show L 14 = true from h) (by rw [nS]; decide)), (fun h i hi => by simp [I.kN h i hi]), (fun h => by simp [I.kM h]), I.k12, I.kb, I.o0, I.o1, I.o2, (fun h => absurd (show L 14 = true from h) (by rw [nS]; decide)), I.v0, I.v1, I.v2, I.v5, I.v6, I.v7, I.v8, I.v9, fun _ => rfl, I.v12, I.v13, I.b3⟩⟩
              · -- operation 11
                simp [hL, Region.binds] at hdep
                have d4 : L 4 = true := by simp [hdep]
                have d10 : L 10 = true := by simp [hdep]
                have nS : L 14 = false := by cases hh9 : L 14 with | false => rfl | true => exact (by rw [I.kS hh9 11 (by omega)] at hn0; cases hn0)
                have e10 := I.v10 d10
                have TT := I.o1 d4 hn0
                have SS := SBH.out.ext (I.x nS)
                refine wpOp_step rfl (fun K' hK => ?_)
                try rw [e10]
                refine step_O (.tmp 137) (.tmp 143) (by rfl) (by rfl) (by rfl) (by rfl) TT SS (by omega) ?_
                intro v9 w10 T9
                exact hK _ _ ⟨_, bit_set hL hsz 11 (by omega), fun jx => if jx = 144 then v9 else s jx, by first | (simp [frMakeReg, Act.put, e10]; done) | (simp [frMakeReg, Act.put, e10]; rfl), by simpa using hsz, ⟨(fun _ => T9.x), (fun h => absurd (show L 14 = true from h) (by rw [nS]; decide)), (fun h i hi => by simp [I.kN h i hi]), (fun h => by simp [I.kM h]), (fun _ => d4), I.kb, (fun h => absurd (show L 4 = false from h) (by rw [d4]; decide)), (fun _ h => absurd h (by simp)), (fun _ _ => T9), (fun h => absurd (show L 14 = true from h) (by rw [nS]; decide)), I.v0, I.v1, I.v2, I.v5, I.v6, I.v7, I.v8, I.v9, I.v10, I.v12, I.v13, (fun _ h => absurd (show L 4 = false from h) (by rw [d4]; decide))⟩⟩
              · -- operation 12
                have NALL : ∀ i, i < 12 → L i = true := by
                  intro i hi9
                  simp [hL, Region.binds] at hdep
                  rcases (show i = 0 ∨ i = 1 ∨ i = 2 ∨ i = 3 ∨ i = 4 ∨ i = 5 ∨ i = 6 ∨ i = 7 ∨ i = 8 ∨ i = 9 ∨ i = 10 ∨ i = 11 by omega) with rfl | rfl | rfl | rfl | rfl | rfl | rfl | rfl | rfl | rfl | rfl | rfl <;> simp [hdep]
                simp [hL, Region.binds] at hdep
                have d0 : L 0 = true := by simp [hdep]
                have nS : L 14 = false := by cases hh9 : L 14 with | false => rfl | true => exact (by rw [I.kS hh9 12 (by omega)] at hn0; cases hn0)
                have e0 := I.v0 d0
                refine wpOp_step rfl (fun K' hK => ?_)
                rw [e0]
                go_simp
                exact hK _ _ ⟨_, bit_set hL hsz 12 (by omega), fun jx => if jx = 145 then .pointer (some ⟨h, 0, none⟩) else s jx, by first | (simp [frMakeReg, e0]; done) | (simp [frMakeReg, e0]; rfl), by simpa using hsz, ⟨I.x, (fun h => absurd (show L 14 = true from h) (by rw [nS]; decide)), (fun _ i hi => by simp [NALL i hi]), (fun _ => rfl), I.k12, I.kb, I.o0, I.o1, I.o2, (fun h => absurd (show L 14 = true from h) (by rw [nS]; decide)), I.v0, I.v1, I.v2, I.v5, I.v6, I.v7, I.v8, I.v9, I.v10, fun _ => rfl, I.v13, I.b3⟩⟩
              · -- operation 13
                simp [hL, Region.binds] at hdep
                have d12 : L 12 = true := by simp [hdep]
                have nS : L 14 = false := by cases hh9 : L 14 with | false => rfl | true => exact (by rw [I.kS hh9 13 (by omega)] at hn0; cases hn0)
                have e12 := I.v12 d12
                refine wpOp_step rfl (fun K' hK => ?_)
                rw [e12]
                go_simp
                exact hK _ _ ⟨_, bit_set hL hsz 13 (by omega), fun jx => if jx = 146 then .pointer (some ⟨h, 0, none⟩) else s jx, by first | (simp [frMakeReg, e12]; done) | (simp [frMakeReg, e12]; rfl), by simpa using hsz, ⟨I.x, (fun h => absurd (show L 14 = true from h) (by rw [nS]; decide)), (fun h i hi => by simp [I.kN h i hi]), (fun _ => d12), I.k12, I.kb, I.o0, I.o1, I.o2, (fun h => absurd (show L 14 = true from h) (by rw [nS]; decide)), I.v0, I.v1, I.v2, I.v5, I.v6, I.v7, I.v8, I.v9, I.v10, I.v12, fun _ => rfl, I.b3⟩⟩
              · -- operation 14
                simp [hL, Region.binds] at hdep
                have d11 : L 11 = true := by simp [hdep]
                have d13 : L 13 = true := by simp [hdep]
                have e13 := I.v13 d13
                have DALL : ∀ i, i < 14 → L i = true := by
                  intro i hi9
                  have dN := I.kM d13
                  rcases (show i < 12 ∨ i = 12 ∨ i = 13 by omega) with h9 | rfl | rfl
                  · exact I.kN dN i h9
                  · exact dN
                  · exact d13
                have TT := I.o2 d11 hn0
                obtain ⟨A9, c9, hv9, _, _⟩ := own_form TT.own
                obtain ⟨g1, g2, g3⟩ := (HBK.out.ext (I.x hn0)).rules
                refine wpOp_step rfl (fun K' hK => ?_)
                rw [hv9, e13]
                go_simp
                exact hK _ _ ⟨_, bit_set hL hsz 14 (by omega), s, by first | (simp [frMakeReg, e13, hv9]; done) | (simp [frMakeReg, e13, hv9]; rfl), by simpa using hsz, ⟨(fun h => absurd h (by simp)), (fun _ i hi => by simp [DALL i hi]), (fun h i hi => by simp [I.kN h i hi]), (fun h => by simp [I.kM h]), I.k12, I.kb, (fun h => absurd (show L 4 = false from h) (by rw [DALL 4 (by omega)]; decide)), (fun _ h => absurd (show L 11 = false from h) (by rw [d11]; decide)), (fun _ h => absurd h (by simp)), (fun _ => ⟨_, w9, TT, by first | (rw [hv9]; done) | (rw [hv9]; rfl) | (rw [hv9]; simp; done) | (rw [hv9]; simp only [Nat.zero_add])⟩), I.v0, I.v1, I.v2, I.v5, I.v6, I.v7, I.v8, I.v9, I.v10, I.v12, I.v13, (fun _ h => absurd (show L 4 = false from h) (by rw [DALL 4 (by omega)]; decide))⟩⟩
            · rintro listed act w9 ⟨L, hL, s, rfl, hsz, I⟩ hr
              have ALL : ∀ i, i < 15 → L i = true := fun i hi => by rw [← hL i]; exact all_listed (by kernel_rfl) hsz hr i hi
              obtain ⟨v9, w10, T9, rfl⟩ := I.es (ALL 14 (by omega))
              clear hL ALL hr hsz I
              unfold frMakeReg
              dsimp only
              have BZ : Blk (w10.setCell ⟨h, 0, none⟩ v9) bx 47 _ := (BXK.out.ext T9.x).keep ((Keep.refl (· = h) w10).setCell (p := ⟨h, 0, none⟩) rfl v9) ((BXK.out.ext T9.x).ne (HBK.out.ext T9.x) (by decide))
              obtain ⟨s1, s2, s3⟩ := BZ.rules
              have E1 := LA.out
              obtain ⟨z1, z2⟩ := H1.out.inserted (A := A) (B := []) (w20 := w20) (XH.out.trans X20.out) ⟨⟨k', W, 3, cls, hash, [], List.replicate nb 0, 0, false⟩, .slice none 0 0, .slice (some ⟨gy, 0, none⟩) nb nb⟩ T9.x (World.ownsRow_nil _ _ _ _) (own_keep OH.out (Keep.of_ext X20.out (fun _ => False)) (fun _ _ h => h)) T9.own (by simp [E1] <;> omega) (by rw [rowO_app, rowO_cons]; simp [cellsO]) (by have := LQ.out; omega)
              have Z1 := Lib.hid z1
              have Z2 := Lib.hid ((R1.out.trans (RK.of_ext (XH.out.trans X20.out))).trans z2)
              clear z1 z2 BZ
              go_wp2_with fail
              go_ret2
              exact ⟨rfl, ⟨_, _, _, Z1.out⟩, Z2.out⟩
          · try clear hq
            have X0 := Lib.hid (T19.x.trans (Ext.refl w21).drew)
            have T0 := Lib.hid (T19.ext (Ext.refl w21).drew)
            clear HBK
            have HBK := HB2
            have BXK := Lib.hid (BH.out.ext X20.out)
            have SBH := Lib.hid PKH.out.1
            have S2 := PKH.out.2.1
            have ONE : Hid (∀ u ∈ ([.int .i64 ((k' : Int) + 1), .int .i64 (3 + (W : Int)), .int .i64 3, .int .i64 cls, .int .i64 hash, .slice none 0 0, .slice (some ⟨gy, 0, none⟩) nb nb, .int .i64 0, .bool false] : List Value), u.oneCell' = true) := Lib.hid (by
              intro u hu
              simp only [List.mem_cons, List.not_mem_nil, or_false] at hu
              rcases hu with rfl | rfl | rfl | rfl | rfl | rfl | rfl | rfl | rfl <;> rfl)
            clear T19 r1 r2 r3
            go_wp2_with fail
            refine wp_any_act (fun A' hA => ?_)
            have eA : A' = frMakeReg w20 h bx t lq c0' (some ⟨g9, 0, none⟩) v19 (0 + t) ([] ++ rowO A) 1 [.int .i64 ((k' : Int) + 1), .int .i64 (3 + (W : Int)), .int .i64 3, .int .i64 cls, .int .i64 hash, .slice none 0 0, .slice (some ⟨gy, 0, none⟩) nb nb, .int .i64 0, .bool false] B.length c2 A2 (rowO B) k' W 3 cls hash none (some ⟨gy, 0, none⟩) 0 0 nb nb (fun q => A'.tmps.getD q undef) (fun q => A'.tmps.getD q undef) := by rw [hA]; rfl
            obtain ⟨uu, huu⟩ : ∃ uu, (fun q => A'.tmps.getD q undef) = uu := ⟨_, rfl⟩
            rw [huu] at eA
            clear hA huu
            subst eA
            refine wp_region_inv (Inv := MakeRegInv w20 h bx t lq c0' (some ⟨g9, 0, none⟩) v19 (0 + t) ([] ++ rowO A) 1 [.int .i64 ((k' : Int) + 1), .int .i64 (3 + (W : Int)), .int .i64 3, .int .i64 cls, .int .i64 hash, .slice none 0 0, .slice (some ⟨gy, 0, none⟩) nb nb, .int .i64 0, .bool false] B.length c2 A2 (rowO B) k' W 3 cls hash none (some ⟨gy, 0, none⟩) 0 0 nb nb uu) (by kernel_rfl) ?_ ?_ ?_
            · refine ⟨fun _ => false, fun k => ?_, uu, rfl, by simp, ⟨fun _ => X0.out, ?_, ?_, ?_, ?_, ?_, fun _ => T0.out, ?_, ?_, ?_, ?_, ?_, ?_, ?_, ?_, ?_, ?_, ?_, ?_, ?_, ?_, ?_⟩⟩
              · rw [Array.getD_eq_getD_getElem?, Array.getElem?_replicate]; split <;> rfl
              all_goals (intro h; cases h)
            · rintro listed act w9 ii ⟨L, hL, s, rfl, hsz, I⟩ hi
              obtain ⟨hlt9, hnot, hdep⟩ := (ready_iff _ _).1 hi
              have hiN : ii < 15 := hlt9
              have casesN : ii = 0 ∨ ii = 1 ∨ ii = 2 ∨ ii = 3 ∨ ii = 4 ∨ ii = 5 ∨ ii = 6 ∨ ii = 7 ∨ ii = 8 ∨ ii = 9 ∨ ii = 10 ∨ ii = 11 ∨ ii = 12 ∨ ii = 13 ∨ ii = 14 := by omega
              have hn0 : L ii = false := by rw [← hL ii]; exact not_bit hnot
              clear hi hlt9 hnot
              unfold frMakeReg
              rcases casesN with rfl | rfl | rfl | rfl | rfl | rfl | rfl | rfl | rfl | rfl | rfl | rfl | rfl | rfl | rfl
              · -- operation 0
                have nS : L 14 = false := by cases hh9 : L 14 with | false => rfl | true => exact (by rw [I.kS hh9 0 (by omega)] at hn0; cases hn0)
                refine wpOp_step rfl (fun K' hK => ?_)
                go_simp
                exact hK _ _ ⟨_, bit_set hL hsz 0 (by omega), fun jx => if jx = 133 then .pointer (some ⟨h, 0, none⟩) else s jx, by first | (simp [frMakeReg]; done) | (simp [frMakeReg]; rfl), by simpa using hsz, ⟨I.x, (fun h => absurd (show L 14 = true from h) (by rw [nS]; decide)), (fun h i hi => by simp [I.kN h i hi]), (fun h => by simp [I.kM h]), I.k12, I.kb, I.o0, I.o1, I.o2, (fun h => absurd (show L 14 = true from h) (by rw [nS]; decide)), fun _ => rfl, I.v1, I.v2, I.v5, I.v6, I.v7, I.v8, I.v9, I.v10, I.v12, I.v13, I.b3⟩⟩
              · -- operation 1
                have nS : L 14 = false := by cases hh9 : L 14 with | false => rfl | true => exact (by rw [I.kS hh9 1 (by omega)] at hn0; cases hn0)
                refine wpOp_step rfl (fun K' hK => ?_)
                go_simp
                exact hK _ _ ⟨_, bit_set hL hsz 1 (by omega), fun jx => if jx = 134 then v19 else s jx, by first | (simp [frMakeReg]; done) | (simp [frMakeReg]; rfl), by simpa using hsz, ⟨I.x, (fun h => absurd (show L 14 = true from h) (by rw [nS]; decide)), (fun h i hi => by simp [I.kN h i hi]), (fun h => by simp [I.kM h]), I.k12, I.kb, I.o0, I.o1, I.o2, (fun h => absurd (show L 14 = true from h) (by rw [nS]; decide)), I.v0, fun _ => rfl, I.v2, I.v5, I.v6, I.v7, I.v8, I.v9, I.v10, I.v12, I.v13, I.b3⟩⟩
              · -- operation 2
                have nS : L 14 = false := by cases hh9 : L 14 with | false => rfl | true => exact (by rw [I.kS hh9 2 (by omega)] at hn0; cases hn0)
                obtain ⟨g1, g2, g3⟩ := (BXK.out.ext (I.x nS)).rules
                refine wpOp_step rfl (fun K' hK => ?_)
                go_simp
                exact hK _ _ ⟨_, bit_set hL hsz 2 (by omega), fun jx => if jx = 135 then .agg #[.int .i64 ((k' : Int) + 1), .int .i64 (3 + (W : Int)), .int .i64 3, .int .i64 cls, .int .i64 hash, .slice none 0 0, .slice (some ⟨gy, 0, none⟩) nb nb, .int .i64 0, .bool false] else s jx, by first | (simp [frMakeReg]; done) | (simp [frMakeReg]; rfl), by simpa using hsz, ⟨I.x, (fun h => absurd (show L 14 = true from h) (by rw [nS]; decide)), (fun h i hi => by simp [I.kN h i hi]), (fun h => by simp [I.kM h]), I.k12, I.kb, I.o0, I.o1, I.o2, (fun h => absurd (show L 14 = true from h) (by rw [nS]; decide)), I.v0, I.v1, fun _ => rfl, I.v5, I.v6, I.v7, I.v8, I.v9, I.v10, I.v12, I.v13, I.b3⟩⟩
              · -- operation 3
                simp [hL, Region.binds] at hdep
                have d2 : L 2 = true := by simp [hdep]
                have nS : L 14 = false := by cases hh9 : L 14 with | false => rfl | true => exact (by rw [I.kS hh9 3 (by omega)] at hn0; cases hn0)
                have n1 : L 4 = false := by cases hh9 : L 4 with | false => rfl | true => exact (by rw [I.kb hh9] at hn0; cases hn0)
                have n2 : L 11 = false := by cases hh9 : L 11 with | false => rfl | true => exact (by rw [I.k12 hh9] at n1; cases n1)
                have e2 := I.v2 d2
                refine wpOp_step rfl (fun K' hK => ?_)
                rw [e2]
                go_simp
                have x9 : Ext w9 (w9.alloc (.cells #[.int .i64 ((k' : Int) + 1), .int .i64 (3 + (W : Int)), .int .i64 3, .int .i64 cls, .int .i64 hash, .slice none 0 0, .slice (some ⟨gy, 0, none⟩) nb nb, .int .i64 0, .bool false] 47)) := (Ext.refl w9).alloc _
                exact hK _ _ ⟨_, bit_set hL hsz 3 (by omega), fun jx => if jx = 136 then .slice (some ⟨w9.heap.size, 0, none⟩) 1 1 else s jx, by first | (simp [frMakeReg, e2]; done) | (simp [frMakeReg, e2]; rfl), by simpa using hsz, ⟨(fun _ => (I.x nS).trans x9), (fun h => absurd (show L 14 = true from h) (by rw [nS]; decide)), (fun h i hi => by simp [I.kN h i hi]), (fun h => by simp [I.kM h]), I.k12, (fun _ => rfl), (fun h => (I.o0 h).ext x9), (fun h => absurd (show L 4 = true from h) (by rw [n1]; decide)), (fun h => absurd (show L 11 = true from h) (by rw [n2]; decide)), (fun h => absurd (show L 14 = true from h) (by rw [nS]; decide)), I.v0, I.v1, I.v2, I.v5, I.v6, I.v7, I.v8, I.v9, I.v10, I.v12, I.v13, (fun _ _ => ⟨_, rfl, Blk.new _ _ _⟩)⟩⟩
              · -- operation 4
                simp [hL, Region.binds] at hdep
                have d1 : L 1 = true := by simp [hdep]
                have d3 : L 3 = true := by simp [hdep]
                have nS : L 14 = false := by cases hh9 : L 14 with | false => rfl | true => exact (by rw [I.kS hh9 4 (by omega)] at hn0; cases hn0)
                have n2 : L 11 = false := by cases hh9 : L 11 with | false => rfl | true => exact (by rw [I.k12 hh9] at hn0; cases hn0)
                have e1 := I.v1 d1
                obtain ⟨bb, e3, hbb⟩ := I.b3 d3 hn0
                have TT := I.o0 hn0
                have SS : SrcO w9 (some ⟨bb, 0, none⟩) 1 [.int .i64 ((k' : Int) + 1), .int .i64 (3 + (W : Int)), .int .i64 3, .int .i64 cls, .int .i64 hash, .slice none 0 0, .slice (some ⟨gy, 0, none⟩) nb nb, .int .i64 0, .bool false] := srcO_blk hbb rfl ONE.out
                refine wpOp_step rfl (fun K' hK => ?_)
                try rw [e1, e3]
                refine step_O (.tmp 134) (.tmp 136) (by rfl) (by rfl) (by rfl) (by rfl) TT SS (by omega) ?_
                intro v9 w10 T9
                exact hK _ _ ⟨_, bit_set hL hsz 4 (by omega), fun jx => if jx = 137 then v9 else s jx, by first | (simp [frMakeReg, Act.put, e1, e3]; done) | (simp [frMakeReg, Act.put, e1, e3]; rfl), by simpa using hsz, ⟨(fun _ => T9.x), (fun h => absurd (show L 14 = true from h) (by rw [nS]; decide)), (fun h i hi => by simp [I.kN h i hi]), (fun h => by simp [I.kM h]), (fun h => absurd (show L 11 = true from h) (by rw [n2]; decide)), (fun _ => d3), (fun h => absurd h (by simp)), (fun _ _ => T9), (fun h => absurd (show L 11 = true from h) (by rw [n2]; decide)), (fun h => absurd (show L 14 = true from h) (by rw [nS]; decide)), I.v0, I.v1, I.v2, I.v5, I.v6, I.v7, I.v8, I.v9, I.v10, I.v12, I.v13, (fun _ h => absurd h (by simp))⟩⟩
              · -- operation 5
                have nS : L 14 = false := by cases hh9 : L 14 with | false => rfl | true => exact (by rw [I.kS hh9 5 (by omega)] at hn0; cases hn0)
                refine wpOp_step rfl (fun K' hK => ?_)
                go_simp
                exact hK _ _ ⟨_, bit_set hL hsz 5 (by omega), fun jx => if jx = 138 then .pointer (some ⟨h, 0, none⟩) else s jx, by first | (simp [frMakeReg]; done) | (simp [frMakeReg]; rfl), by simpa using hsz, ⟨I.x, (fun h => absurd (show L 14 = true from h) (by rw [nS]; decide)), (fun h i hi => by simp [I.kN h i hi]), (fun h => by simp [I.kM h]), I.k12, I.kb, I.o0, I.o1, I.o2, (fun h => absurd (show L 14 = true from h) (by rw [nS]; decide)), I.v0, I.v1, I.v2, fun _ => rfl, I.v6, I.v7, I.v8, I.v9, I.v10, I.v12, I.v13, I.b3⟩⟩
              · -- operation 6
                simp [hL, Region.binds] at hdep
                have d5 : L 5 = true := by simp [hdep]
                have nS : L 14 = false := by cases hh9 : L 14 with | false => rfl | true => exact (by rw [I.kS hh9 6 (by omega)] at hn0; cases hn0)
                have e5 := I.v5 d5
                refine wpOp_step rfl (fun K' hK => ?_)
                rw [e5]
                go_simp
                exact hK _ _ ⟨_, bit_set hL hsz 6 (by omega), fun jx => if jx = 139 then .pointer (some ⟨h, 0, none⟩) else s jx, by first | (simp [frMakeReg, e5]; done) | (simp [frMakeReg, e5]; rfl), by simpa using hsz, ⟨I.x, (fun h => absurd (show L 14 = true from h) (by rw [nS]; decide)), (fun h i hi => by simp [I.kN h i hi]), (fun h => by simp [I.kM h]), I.k12, I.kb, I.o0, I.o1, I.o2, (fun h => absurd (show L 14 = true from h) (by rw [nS]; decide)), I.v0, I.v1, I.v2, I.v5, fun _ => rfl, I.v7, I.v8, I.v9, I.v10, I.v12, I.v13, I.b3⟩⟩
              · -- operation 7
                simp [hL, Region.binds] at hdep
                have d6 : L 6 = true := by simp [hdep]
                have nS : L 14 = false := by cases hh9 : L 14 with | false => rfl | true => exact (by rw [I.kS hh9 7 (by omega)] at hn0; cases hn0)
                have e6 := I.v6 d6
                refine wpOp_step rfl (fun K' hK => ?_)
                rw [e6]
                go_simp
                exact hK _ _ ⟨_, bit_set hL hsz 7 (by omega), fun jx => if jx = 140 then .pointer (some ⟨h, 0, none⟩) else s jx, by first | (simp [frMakeReg, e6]; done) | (simp [frMakeReg, e6]; rfl), by simpa using hsz, ⟨I.x, (fun h => absurd (show L 14 = true from h) (by rw [nS]; decide)), (fun h i hi => by simp [I.kN h i hi]), (fun h => by simp [I.kM h]), I.k12, I.kb, I.o0, I.o1, I.o2, (fun h => absurd (show L 14 = true from h) (by rw [nS]; decide)), I.v0, I.v1, I.v2, I.v5, I.v6, fun _ => rfl, I.v8, I.v9, I.v10, I.v12, I.v13, I.b3⟩⟩
              · -- operation 8
                simp [hL, Region.binds] at hdep
                have d7 : L 7 = true := by simp [hdep]
                have nS : L 14 = false := by cases hh9 : L 14 with | false => rfl | true => exact (by rw [I.kS hh9 8 (by omega)] at hn0; cases hn0)
                have e7 := I.v7 d7
                obtain ⟨g1, g2, g3⟩ := (HBK.out.ext (I.x nS)).rules
                refine wpOp_step rfl (fun K' hK => ?_)
                rw [e7]
                go_simp
                exact hK _ _ ⟨_, bit_set hL hsz 8 (by omega), fun jx => if jx = 141 then .slice (some ⟨g9, 0, none⟩) lq c0' else s jx, by first | (simp [frMakeReg, e7]; done) | (simp [frMakeReg, e7]; rfl), by simpa using hsz, ⟨I.x, (fun h => absurd (show L 14 = true from h) (by rw [nS]; decide)), (fun h i hi => by simp [I.kN h i hi]), (fun h => by simp [I.kM h]), I.k12, I.kb, I.o0, I.o1, I.o2, (fun h => absurd (show L 14 = true from h) (by rw [nS]; decide)), I.v0, I.v1, I.v2, I.v5, I.v6, I.v7, fun _ => rfl, I.v9, I.v10, I.v12, I.v13, I.b3⟩⟩
              · -- operation 9
                have nS : L 14 = false := by cases hh9 : L 14 with | false => rfl | true => exact (by rw [I.kS hh9 9 (by omega)] at hn0; cases hn0)
                refine wpOp_step rfl (fun K' hK => ?_)
                go_simp
                exact hK _ _ ⟨_, bit_set hL hsz 9 (by omega), fun jx => if jx = 142 then .int .i64 (t : Int) else s jx, by first | (simp [frMakeReg]; done) | (simp [frMakeReg]; rfl), by simpa using hsz, ⟨I.x, (fun h => absurd (show L 14 = true from h) (by rw [nS]; decide)), (fun h i hi => by simp [I.kN h i hi]), (fun h => by simp [I.kM h]), I.k12, I.kb, I.o0, I.o1, I.o2, (fun h => absurd (show L 14 = true from h) (by rw [nS]; decide)), I.v0, I.v1, I.v2, I.v5, I.v6, I.v7, I.v8, fun _ => rfl, I.v10, I.v12, I.v13, I.b3⟩⟩
              · -- operation 10
                simp [hL, Region.binds] at hdep
                have d8 : L 8 = true := by simp [hdep]
                have d9 : L 9 = true := by simp [hdep]
                have nS : L 14 = false := by cases hh9 : L 14 with | false => rfl | true => exact (by rw [I.kS hh9 10 (by omega)] at hn0; cases hn0)
                have e8 := I.v8 d8
                have e9 := I.v9 d9
                refine wpOp_step rfl (fun K' hK => ?_)
                rw [e8, e9]
                go_simp
                exact hK _ _ ⟨_, bit_set hL hsz 10 (by omega), fun jx => if jx = 143 then .slice A2 B.length c2 else s jx, by first | (simp [frMakeReg, e8, e9]; done) | (simp [frMakeReg, e8, e9]; rfl), by simpa using hsz, ⟨I.x, (fun h => absurd (show L 14 = true from h) (by rw [nS]; decide)), (fun h i hi => by simp [I.kN h i hi]), (fun h => by simp [I.kM h]), I.k12, I.kb, I.o0, I.o1, I.o2, (fun h => absurd (show L 14 = true from h) (by rw [nS]; decide)), I.v0, I.v1, I.v2, I.v5, I.v6, I.v7, I.v8, I.v9, fun _ => rfl, I.v12, I.v13, I.b3⟩⟩
              · -- operation 11
                simp [hL, Region.binds] at hdep
                have d4 : L 4 = true := by simp [hdep]
                have d10 : L 10 = true := by simp [hdep]
                have nS : L 14 = false := by cases hh9 : L 14 with | false => rfl | true => exact (by rw [I.kS hh9 11 (by omega)] at hn0; cases hn0)
                have e10 := I.v10 d10
                have TT := I.o1 d4 hn0
                have SS := SBH.out.ext (I.x nS)
                refine wpOp_step rfl (fun K' hK => ?_)
                try rw [e10]
                refine step_O (.tmp 137) (.tmp 143) (by rfl) (by rfl) (by rfl) (by rfl) TT SS (by omega) ?_
                intro v9 w10 T9
                exact hK _ _ ⟨_, bit_set hL hsz 11 (by omega), fun jx => if jx = 144 then v9 else s jx, by first | (simp [frMakeReg, Act.put, e10]; done) | (simp [frMakeReg, Act.put, e10]; rfl), by simpa using hsz, ⟨(fun _ => T9.x), (fun h => absurd (show L 14 = true from h) (by rw [nS]; decide)), (fun h i hi => by simp [I.kN h i hi]), (fun h => by simp [I.kM h]), (fun _ => d4), I.kb, (fun h => absurd (show L 4 = false from h) (by rw [d4]; decide)), (fun _ h => absurd h (by simp)), (fun _ _ => T9), (fun h => absurd (show L 14 = true from h) (by rw [nS]; decide)), I.v0, I.v1, I.v2, I.v5, I.v6, I.v7, I.v8, I.v9, I.v10, I.v12, I.v13, (fun _ h => absurd (show L 4 = false from h) (by rw [d4]; decide))⟩⟩
              · -- operation 12
                have NALL : ∀ i, i < 12 → L i = true := by
                  intro i hi9
                  simp [hL, Region.binds] at hdep
                  rcases (show i = 0 ∨ i = 1 ∨ i = 2 ∨ i = 3 ∨ i = 4 ∨ i = 5 ∨ i = 6 ∨ i = 7 ∨ i = 8 ∨ i = 9 ∨ i = 10 ∨ i = 11 by omega) with rfl | rfl | rfl | rfl | rfl | rfl | rfl | rfl | rfl | rfl | rfl | rfl <;> simp [hdep]
                simp [hL, Region.binds] at hdep
                have d0 : L 0 = true := by simp [hdep]
                have nS : L 14 = false := by cases hh9 : L 14 with | false => rfl | true => exact (by rw [I.kS hh9 12 (by omega)] at hn0; cases hn0)
                have e0 := I.v0 d0
                refine wpOp_step rfl (fun K' hK => ?_)
                rw [e0]
                go_simp
                exact hK _ _ ⟨_, bit_set hL hsz 12 (by omega), fun jx => if jx = 145 then .pointer (some ⟨h, 0, none⟩) else s jx, by first | (simp [frMakeReg, e0]; done) | (simp [frMakeReg, e0]; rfl), by simpa using hsz, ⟨I.x, (fun h => absurd (show L 14 = true from h) (by rw [nS]; decide)), (fun _ i hi => by simp [NALL i hi]), (fun _ => rfl), I.k12, I.kb, I.o0, I.o1, I.o2, (fun h => absurd (show L 14 = true from h) (by rw [nS]; decide)), I.v0, I.v1, I.v2, I.v5, I.v6, I.v7, I.v8, I.v9, I.v10, fun _ => rfl, I.v13, I.b3⟩⟩
              · -- operation 13
                simp [hL, Region.binds] at hdep
                have d12 : L 12 = true := by simp [hdep]
                have nS : L 14 = false := by cases hh9 : L 14 with | false => rfl | true => exact (by rw [I.kS hh9 13 (by omega)] at hn0; cases hn0)
                have e12 := I.v12 d12
                refine wpOp_step rfl (fun K' hK => ?_)
                rw [e12]
                go_simp
                exact hK _ _ ⟨_, bit_set hL hsz 13 (by omega), fun jx => if jx = 146 then .pointer (some ⟨h, 0, none⟩) else s jx, by first | (simp [frMakeReg, e12]; done) | (simp [frMakeReg, e12]; rfl), by simpa using hsz, ⟨I.x, (fun h => absurd (show L 14 = true from h) (by rw [nS]; decide)), (fun h i hi => by simp [I.kN h i hi]), (fun _ => d12), I.k12, I.kb, I.o0, I.o1, I.o2, (fun h => absurd (show L 14 = true from h) (by rw [nS]; decide)), I.v0, I.v1, I.v2, I.v5, I.v6, I.v7, I.v8, I.v9, I.v10, I.v12, fun _ => rfl, I.b3⟩⟩
              · -- operation 14
                simp [hL, Region.binds] at hdep
                have d11 : L 11 = true := by simp [hdep]
                have d13 : L 13 = true := by simp [hdep]
                have e13 := I.v13 d13
                have DALL : ∀ i, i < 14 → L i = true := by
                  intro i hi9
                  have dN := I.kM d13
                  rcases (show i < 12 ∨ i = 12 ∨ i = 13 by omega) with h9 | rfl | rfl
                  · exact I.kN dN i h9
                  · exact dN
                  · exact d13
                have TT := I.o2 d11 hn0
                obtain ⟨A9, c9, hv9, _, _⟩ := own_form TT.own
                obtain ⟨g1, g2, g3⟩ := (HBK.out.ext (I.x hn0)).rules
                refine wpOp_step rfl (fun K' hK => ?_)
                rw [hv9, e13]
                go_simp
                exact hK _ _ ⟨_, bit_set hL hsz 14 (by omega), s, by first | (simp [frMakeReg, e13, hv9]; done) | (simp [frMakeReg, e13, hv9]; rfl), by simpa using hsz, ⟨(fun h => absurd h (by simp)), (fun _ i hi => by simp [DALL i hi]), (fun h i hi => by simp [I.kN h i hi]), (fun h => by simp [I.kM h]), I.k12, I.kb, (fun h => absurd (show L 4 = false from h) (by rw [DALL 4 (by omega)]; decide)), (fun _ h => absurd (show L 11 = false from h) (by rw [d11]; decide)), (fun _ h => absurd h (by simp)), (fun _ => ⟨_, w9, TT, by first | (rw [hv9]; done) | (rw [hv9]; rfl) | (rw [hv9]; simp; done) | (rw [hv9]; simp only [Nat.zero_add])⟩), I.v0, I.v1, I.v2, I.v5, I.v6, I.v7, I.v8, I.v9, I.v10, I.v12, I.v13, (fun _ h => absurd (show L 4 = false from h) (by rw [DALL 4 (by omega)]; decide))⟩⟩
            · rintro listed act w9 ⟨L, hL, s, rfl, hsz, I⟩ hr
              have ALL : ∀ i, i < 15 → L i = true := fun i hi => by rw [← hL i]; exact all_listed (by kernel_rfl) hsz hr i hi
              obtain ⟨v9, w10, T9, rfl⟩ := I.es (ALL 14 (by omega))
              clear hL ALL hr hsz I
              unfold frMakeReg
              dsimp only
              have BZ : Blk (w10.setCell ⟨h, 0, none⟩ v9) bx 47 _ := (BXK.out.ext T9.x).keep ((Keep.refl (· = h) w10).setCell (p := ⟨h, 0, none⟩) rfl v9) ((BXK.out.ext T9.x).ne (HBK.out.ext T9.x) (by decide))
              obtain ⟨s1, s2, s3⟩ := BZ.rules
              have E1 := LA.out
              obtain ⟨z1, z2⟩ := H1.out.inserted (A := A) (B := B) (w20 := w20) (XH.out.trans X20.out) ⟨⟨k', W, 3, cls, hash, [], List.replicate nb 0, 0, false⟩, .slice none 0 0, .slice (some ⟨gy, 0, none⟩) nb nb⟩ T9.x (World.ownsRow_nil _ _ _ _) (own_keep OH.out (Keep.of_ext X20.out (fun _ => False)) (fun _ _ h => h)) T9.own (by simp [E1] <;> omega) (by rw [rowO_app, rowO_cons]; simp [cellsO]) (by have := LQ.out; omega)
              have Z1 := Lib.hid z1
              have Z2 := Lib.hid ((R1.out.trans (RK.of_ext (XH.out.trans X20.out))).trans z2)
              clear z1 z2 BZ
              go_wp2_with fail
              go_ret2
              exact ⟨rfl, ⟨_, _, _, Z1.out⟩, Z2.out⟩
      )
end
end Go.Proofs.Ytjpalcejmloocaa.RefHeap
