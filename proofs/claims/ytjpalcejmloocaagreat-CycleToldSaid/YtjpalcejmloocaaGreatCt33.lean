/-
  Cyc7, as one text (a claim has at most 60 files).
-/
import Derived.Test.YtjpalcejmloocaaGreatCt32
import Derived.Deep.RegionHeld3
namespace Go.Proofs.YtjpalcejmloocaaGreat.World
open Go.RowKit Go.Proofs.YtjpalcejmloocaaGreat.Plain
set_option linter.unusedVariables false
attribute [local go_sem ↓] Go.wp_at_zero Go.wp_at_succ
namespace MS
/-- fields alone have turned -/
structure Kin (S S' : MS) : Prop where
  has : ∀ i, S'.has i = S.has i
  fmt : ∀ i, S'.fmt i = S.fmt i
  size : ∀ i, S'.size i = S.size i
  len : S'.L.length = S.L.length
  col : S'.col = S.col
  lst : S'.lst = S.lst
  R : S'.R = S.R
  dead : S'.dead = S.dead
theorem Kin.refl (S : MS) : Kin S S := ⟨fun _ => rfl, fun _ => rfl, fun _ => rfl, rfl, rfl, rfl, rfl, rfl⟩
theorem Kin.trans {A B C : MS} (h : Kin A B) (k : Kin B C) : Kin A C := ⟨fun i => (k.has i).trans (h.has i), fun i => (k.fmt i).trans (h.fmt i), fun i => (k.size i).trans (h.size i), k.len.trans h.len, k.col.trans h.col, k.lst.trans h.lst, k.R.trans h.R, k.dead.trans h.dead⟩
theorem Kin.colour {S S' : MS} (h : Kin S S') (i : Int) : S'.colour i = S.colour i := by unfold MS.colour; rw [h.has, h.col]
theorem kin_put (S : MS) (i j : Int) (v : PV) (hi : S.has i = true) : Kin S (S.put i j v) :=
  ⟨fun k => has_put k, fun k => fmt_put (has_lt hi) k, fun k => size_put (has_lt hi) k, put_len, rfl, rfl, rfl, rfl⟩
theorem kin_weakN (S : MS) (i : Int) (hi : S.has i = true) : ∀ k, Kin S (S.weakN i k)
  | 0 => .refl S
  | k + 1 => by
    have h := kin_weakN S i hi k
    unfold weakN; split
    · exact h.trans (kin_put _ _ _ _ (by rw [h.has]; exact hi))
    · exact h
theorem kin_weakT (S : MS) (i : Int) (hi : S.has i = true) : Kin S (S.weakT i) := by
  unfold weakT; split
  · exact .refl S
  · exact kin_weakN S i hi _
theorem kin_weaks : ∀ (l : List Int) (S : MS), (∀ i ∈ l, S.has i = true) → Kin S (l.foldl weakT S)
  | [], S, _ => .refl S
  | i :: l, S, h => by
    have h1 := kin_weakT S i (h i (List.mem_cons_self ..))
    exact h1.trans (kin_weaks l _ (fun j hj => by rw [h1.has]; exact h j (List.mem_cons_of_mem _ hj)))
theorem kin_weaken (S : MS) : Kin S S.weaken := kin_weaks _ S (fun i hi => places_has hi)
theorem weaks_snoc (S : MS) (l : List Int) (i : Int) : (l ++ [i]).foldl weakT S = (l.foldl weakT S).weakT i := by rw [List.foldl_append]; rfl
end MS
section
variable {w w' w2 : World} {F F' F2 : Nat → Prop} {m : Nat} {S S' : MS} {X : MX}
/-- Put of a world that is turned, and where its things stand -/
theorem mput2 (h : M w F m S) {i j : Int} {v : PV} (hf : S.isField i j = true) (hv : S.may v = true) : ∃ bt, w.cell? ⟨m, 0, none⟩ = some (.iface 70 (.pointer (some ⟨bt, 0, none⟩))) ∧ m < w.heap.size ∧ ∀ W, Ext w W → Calls Tryz.prog 181 #[.pointer (some ⟨bt, 0, none⟩), .int .i64 i, .int .i64 j, val v] W fun e w' => e = .returned (.tuple #[]) ∧ M w' F m (S.put i j v) ∧ Keep F W w' ∧ w'.cell? ⟨m, 0, none⟩ = some (.iface 70 (.pointer (some ⟨bt, 0, none⟩))) := by
  obtain ⟨X, h⟩ := h
  obtain ⟨a1, a2, a3, a4, _, _⟩ := MS.field_lt h.wf hf
  have hw := MS.put_wf h.wf hf hv
  obtain ⟨k, rfl⟩ := Int.eq_ofNat_of_zero_le a1
  obtain ⟨l, rfl⟩ := Int.eq_ofNat_of_zero_le a3
  have b1 := h.wf.nF k (by omega)
  have b2 := h.wf.len
  have b3 := h.wf.last
  have a4 : (l : Int) < ((tAt S.L k).F.length : Nat) := a4
  obtain ⟨q1, _, q3⟩ := h.bm.rules
  refine ⟨X.bt, q1 0, q3, fun W x => (tput (h.ext x).ts k l v (by omega) (by omega) (by omega) (by omega)).mono ?_⟩
  rintro e w' ⟨rfl, t', kp⟩
  have kt : KT [38] W w' := kp.mono (fun g hg => by
    obtain ⟨_, cs, b⟩ := ((h.ext x).ts.fs k (by omega)).block hg
    exact ⟨_, cs, by simp, b⟩)
  exact ⟨rfl, ⟨X, (h.ext x).turn t' kt hw ⟨rfl, rfl, rfl, rfl, rfl, rfl, rfl, rfl⟩ (by decide) (by decide) (by decide) (by decide) (by decide)⟩, kp.mono (fun g hg => h.ts.fF k (by omega) g hg), (blk_kt (h.ext x).bm kt (by decide)).cell 0⟩
set_option maxRecDepth 100000 in
set_option maxHeartbeats 4000000 in
theorem mweaken (h : M w F m S) (h0 : S.has 0 = true) : Calls Tryz.prog 90 #[.pointer (some ⟨m, 0, none⟩)] w fun e w' => e = .returned (.tuple #[]) ∧ M w' F m S.weaken ∧ Keep F w w' := by
  have HM := Lib.hid h
  have HL := Lib.hid h.lt
  have H0 := Lib.hid h0
  have ES : Hid (S.weaken = S.places.foldl MS.weakT S) := Lib.hid rfl
  have GH := Lib.hid (fun i (hi : i ∈ S.places) => MS.places_has hi)
  have KW := Lib.hid (fun k => MS.kin_weaks (S.places.take k) S (fun i hi => GH.out i (List.mem_of_mem_take hi)))
  obtain ⟨bt, sb, C⟩ := h.cl
  have c0 := C.c0
  have lt := C.lt
  have C1 := Lib.hid (fun W [IsExt w W] => C.places W)
  clear C h h0
  go_enter Tryz.func90, Tryz.ntmps90
  go_wp2_with fail
  refine calls_name (fun W hW => ?_)
  have hx : IsExt w W := ⟨by rw [hW]; exact is_ext _ _⟩
  clear hW
  refine (C1.out W).mono ?_
  rintro e w2 ⟨A, c, rfl, o, x2⟩
  have M2 := Lib.hid (HM.out.ext (hx.out.trans x2))
  have X2 := Lib.hid (hx.out.trans x2)
  have RW : Hid (Row w2 (.slice A S.places.length c) S.places.length 1 (fun i _ => .int .i64 (S.places.getD i 0))) := Lib.hid o.own.row
  have NF : Hid (∀ j, (Value.slice A S.places.length c).ownBlock = some j → ¬ F j) := Lib.hid (fun j hj hf => by
    have h1 := (o.own.block hj).1
    have h2 := HL.out j hf
    have h3 := hx.out.below.size
    omega)
  clear c0 lt hx o x2 C1 HM
  generalize S.places = l at *
  generalize hnl : l.length = n at *
  have HNL := Lib.hid hnl
  clear hnl
  have TK : Hid (∀ k, k < n → l.take (k + 1) = l.take k ++ [l.getD k 0]) := Lib.hid (fun k h => take_next (by rw [HNL.out]; exact h))
  have TA : Hid (l.take n = l) := Lib.hid (by rw [← HNL.out]; exact List.take_length ..)
  have GM : Hid (∀ k, k < n → l.getD k 0 ∈ l) := Lib.hid (fun k h => by
    rw [List.getD_eq_getElem?_getD, List.getElem?_eq_getElem (by rw [HNL.out]; exact h)]
    exact List.getElem_mem _)
  have nB : n ≤ 9223372036854775807 := by
    obtain ⟨_, _, e, l1, l2⟩ := Row.form RW.out
    omega
  go_wp2_with fail
  rename World => wo
  go_loopw [12] (fun iv wq => ∃ q : Nat, q ≤ n ∧ iv = .int .i64 q ∧ M wq F m ((l.take q).foldl MS.weakT S) ∧ Keep F wo wq) (fun iv _ => n - (intOf iv).toNat)
  case atStart => exact ⟨0, by omega, rfl, M2.out, Keep.refl _ _⟩
  case round =>
    clear M2
    obtain ⟨q, hq, rfl, hm, hkp⟩ := hrel
    have KQ := Lib.hid hkp
    have HM := Lib.hid hm
    clear hkp
    by_cases hlt : q < n
    · have qI : (q : Int) < (n : Int) := by omega
      obtain ⟨b, off, rfl, hb, hc⟩ := Row.at_ (Row.far RW.out KQ.out NF.out) q hlt
      have d0 : wr.cell? ⟨b, off + q, none⟩ = some (.int .i64 (l.getD q 0)) := by have := hc 0 (by omega); rw [Nat.mul_one] at this; exact this
      have T := Lib.hid (TK.out q hlt)
      have KN := Lib.hid (KW.out q)
      have HZ : Hid (((l.take q).foldl MS.weakT S).has (l.getD q 0) = true) := Lib.hid (by rw [KN.out.has]; exact GH.out _ (GM.out q hlt))
      have HN0 : Hid (((l.take q).foldl MS.weakT S).has 0 = true) := Lib.hid (by rw [KN.out.has]; exact H0.out)
      have NX : Hid ((l.take (q + 1)).foldl MS.weakT S = ((l.take q).foldl MS.weakT S).weakT (l.getD q 0)) := Lib.hid (by rw [T.out, MS.weaks_snoc])
      clear hc T KN
      generalize l.getD q 0 = z at *
      generalize (l.take q).foldl MS.weakT S = S1 at *
      obtain ⟨bt3, R⟩ := hm.rd
      obtain ⟨bt4, sb3, C⟩ := hm.cl
      obtain rfl := R.one C
      have c0 := R.c0
      have lt := R.lt
      have C1 := Lib.hid (fun W [IsExt wr W] => R.fmt W z)
      have C2 := Lib.hid (fun W [IsExt wr W] => C.colour W z)
      have C3 := Lib.hid (fun W [IsExt wr W] => R.size W z)
      have EW : Hid (S1.weakT z = if S1.fmt z ≠ 2 ∨ S1.colour z = 0 then S1 else S1.weakN z (S1.size z).toNat) := Lib.hid rfl
      have wf1 := hm.wf
      have SZ : Hid (0 ≤ S1.size z ∧ S1.size z ≤ 300) := Lib.hid (by
        obtain ⟨g0, g1⟩ := MS.has_lt HZ.out
        unfold MS.size
        rw [if_pos HZ.out]
        have a := wf1.nF z.toNat (by omega)
        have b := wf1.nB z.toNat (by omega)
        unfold MS.t
        omega)
      clear hm R C wf1
      by_cases hf : S1.fmt z = 2
      · by_cases hcl : S1.colour z = 0
        · rw [if_pos (.inr hcl)] at EW
          rw [hf] at C1
          rw [hcl] at C2
          clear hf hcl C3 SZ
          go_wp2_with (first | (go_at_call 173; refine (C1.out _).mono ?_; rintro e w2 ⟨rfl, x2⟩; obtain ⟨y, rfl⟩ := x2) | (go_at_call 170; refine (C2.out _).mono ?_; rintro e w2 ⟨rfl, x2⟩; obtain ⟨y, rfl⟩ := x2))
          go_roundw
          case rel => exact ⟨q + 1, by omega, by go_num, by rw [NX.out, EW.out]; exact HM.out.ext (is_ext _ _), KQ.out.ext (is_ext _ _)⟩
          case measure => simp [intOf] <;> omega
        · rw [if_neg (by rintro (h | h); exact h hf; exact hcl h)] at EW
          have e1 : (S1.colour z == 0) = false := beq_eq_false_iff_ne.2 hcl
          have FM := Lib.hid hf
          rw [hf] at C1
          clear hf hcl
          generalize S1.colour z = cz at *
          generalize hsz : S1.size z = sz at *
          obtain ⟨k2, rfl⟩ := Int.eq_ofNat_of_zero_le SZ.out.1
          have HSZ := Lib.hid hsz
          rw [Int.toNat_natCast] at EW
          have kB : k2 ≤ 300 := by have := SZ.out.2; omega
          clear hsz
          go_wp2_with (first | (go_at_call 173; refine (C1.out _).mono ?_; rintro e w2 ⟨rfl, x2⟩; obtain ⟨y, rfl⟩ := x2) | (go_at_call 170; refine (C2.out _).mono ?_; rintro e w2 ⟨rfl, x2⟩; obtain ⟨y, rfl⟩ := x2) | (go_at_call 184; refine (C3.out _).mono ?_; rintro e w2 ⟨rfl, x2⟩; obtain ⟨y, rfl⟩ := x2))
          clear c0 lt C1 C2 C3 d0 hb
          rename World => wi
          go_loopw [38] (fun iv wq => ∃ j : Nat, j ≤ k2 ∧ iv = .int .i64 j ∧ M wq F m (S1.weakN z j) ∧ Keep F wi wq) (fun iv _ => k2 - (intOf iv).toNat)
          case atStart => exact ⟨0, by omega, rfl, HM.out.ext (is_ext _ _), Keep.of_ext (is_ext _ _) _⟩
          case round =>
            clear HM
            obtain ⟨j, hj, rfl, hm, hkp⟩ := hrel
            have KI := Lib.hid hkp
            have HM := Lib.hid hm
            clear hkp
            by_cases hlt2 : j < k2
            · have jI : (j : Int) < (k2 : Int) := by omega
              have KN := Lib.hid (MS.kin_weakN S1 z HZ.out j)
              have T : Hid (S1.weakN z (j + 1) = if ((S1.weakN z j).field z j).obj && decide ((S1.weakN z j).colour ((S1.weakN z j).field z j).n = 0) then (S1.weakN z j).put z j MS.nilV else S1.weakN z j) := Lib.hid rfl
              have hz2 : (S1.weakN z j).has z = true := by rw [KN.out.has]; exact HZ.out
              have h02 : (S1.weakN z j).has 0 = true := by rw [KN.out.has]; exact HN0.out
              have hf2 : (S1.weakN z j).fmt z = 2 := by rw [KN.out.fmt]; exact FM.out
              have hs2 : (S1.weakN z j).size z = (k2 : Int) := by rw [KN.out.size]; exact HSZ.out
              have IF2 : Hid ((S1.weakN z j).isField z j = true) := Lib.hid (by unfold MS.isField; rw [hz2, hf2, hs2]; simp; omega)
              have MY2 : Hid ((S1.weakN z j).may MS.nilV = true) := Lib.hid h02
              generalize S1.weakN z j = S2 at *
              obtain ⟨bt5, R⟩ := hm.rd
              obtain ⟨bt6, sb5, C⟩ := hm.cl
              obtain rfl := R.one C
              have c0 := R.c0
              have lt := R.lt
              have C1 := Lib.hid (fun W [IsExt wr W] => R.field W z j hz2 (by omega) (by rw [hs2]; exact jI) (by rw [hf2]; decide))
              have C2 := Lib.hid (fun W [IsExt wr W] i => C.colour W i)
              clear hm R C hz2 h02 hf2 hs2 KN
              unfold val at C1
              generalize S2.field z j = v at *
              obtain ⟨vo, vn⟩ := v
              go_upto_region 8 with (first | (go_at_call 171; refine (C1.out _).mono ?_; rintro e w2 ⟨rfl, x2⟩; obtain ⟨y, rfl⟩ := x2))
              refine wp_name (fun W5 hW => ?_)
              have BV := Lib.hid (Blk.new' hW)
              have X5 := Lib.hid ((is_ext wr _).alloc' hW)
              clear hW
              rw [size_ext] at BV
              obtain ⟨gv, egv⟩ : ∃ g, wr.heap.size + y.blocks.size = g := ⟨_, rfl⟩
              rw [egv] at BV ⊢
              have M5 := Lib.hid (HM.out.ext X5.out)
              have K5 := Lib.hid (KI.out.ext X5.out)
              have HGV := Lib.hid (show ¬ F gv from fun hf => by have := HM.out.lt gv hf; omega)
              clear egv c0 lt C1 C2 HM KI X5
              obtain ⟨bt7, sb7, C⟩ := M5.out.cl
              have c0 := C.c0
              have lt := C.lt
              have C2 := Lib.hid (fun W [IsExt W5 W] => C.colour W vn)
              obtain ⟨r1, r2, r3⟩ := BV.out.rules
              clear C
              cases vo with
              | false =>
                rw [Bool.false_and, if_neg (by decide)] at T
                clear C2
                refine wp_region_ext (by kernel_rfl) (by kernel_rfl) ?_
                repeat (go_big_quiet_step (fail))
                refine wpQuiet_nil ?_
                rintro W6 x6
                replace x6 : Ext W5 W6 := x6
                have M6 := Lib.hid (M5.out.ext x6)
                have K6 := Lib.hid (K5.out.ext x6)
                clear x6 c0 lt r1 r2 r3 BV M5 K5
                go_wp2_with fail
                go_roundw
                case rel => exact ⟨j + 1, by omega, by go_num, by rw [T.out]; exact M6.out, K6.out⟩
                case measure => simp [intOf] <;> omega
              | true =>
                rw [Bool.true_and] at T
                by_cases hcz : S2.colour vn = 0
                · rw [decide_eq_true hcz, if_pos rfl] at T
                  rw [hcz] at C2
                  clear hcz
                  refine wp_region_ext (by kernel_rfl) (by kernel_rfl) ?_
                  repeat (go_big_quiet_step ((first | (go_at_call 170; exact calls_ext (C2.out _)))))
                  refine wpQuiet_nil ?_
                  rintro W6 x6
                  replace x6 : Ext W5 W6 := x6
                  have M6 := Lib.hid (M5.out.ext x6)
                  have K6 := Lib.hid (K5.out.ext x6)
                  clear x6 c0 lt r1 r2 r3 BV M5 K5 C2
                  obtain ⟨bt8, c0, lt, P⟩ := mput2 (v := MS.nilV) M6.out IF2.out MY2.out
                  have PP := Lib.hid P
                  have CN := Lib.hid (fun W (x : Ext W6 W) => mnil (M6.out.ext x))
                  have CC := Lib.hid (fun y (e : Ext W6 y) => (e.below.cell (p := ⟨m, 0, none⟩) lt).trans c0)
                  clear P
                  unfold val objV at CN
                  unfold val MS.nilV at PP
                  go_upto_region 9 with (fail)
                  go_region_held3 (fun w' => w'.cell? ⟨m, 0, none⟩ = some (.iface 70 (.pointer (some ⟨bt8, 0, none⟩))))
                    (first | exact c9 | exact CC.out _ X7 | exact CC.out _ ((Ext.refl _).drew) | exact c0)
                    (first
                      | (go_at_call 181; refine (PP.out _ X7).mono ?_; rintro e w8 ⟨rfl, m8, k8, c9⟩)
                      | (go_at_call 113; refine (CN.out _ ((Ext.refl _).drew)).mono ?_; rintro e w7 ⟨rfl, x7⟩; have X7 := ((Ext.refl _).drew).trans x7))
                  have M8 := Lib.hid m8
                  have K8 := Lib.hid (K6.out.trans ((Keep.of_ext X7 F).trans k8))
                  clear m8 k8 c9 X7 c0 lt PP CN CC M6 K6
                  go_wp2_with fail
                  go_roundw
                  case rel => exact ⟨j + 1, by omega, by go_num, by rw [T.out]; exact M8.out, K8.out⟩
                  case measure => simp [intOf] <;> omega
                · have e3 : (S2.colour vn == 0) = false := beq_eq_false_iff_ne.2 hcz
                  rw [decide_eq_false hcz, if_neg (by decide)] at T
                  clear hcz
                  generalize S2.colour vn = cv at *
                  refine wp_region_ext (by kernel_rfl) (by kernel_rfl) ?_
                  repeat (go_big_quiet_step ((first | (go_at_call 170; exact calls_ext (C2.out _)))))
                  refine wpQuiet_nil ?_
                  rintro W6 x6
                  replace x6 : Ext W5 W6 := x6
                  have M6 := Lib.hid (M5.out.ext x6)
                  have K6 := Lib.hid (K5.out.ext x6)
                  clear x6 c0 lt r1 r2 r3 BV M5 K5 C2
                  go_wp2_with fail
                  go_roundw
                  case rel => exact ⟨j + 1, by omega, by go_num, by rw [T.out]; exact M6.out, K6.out⟩
                  case measure => simp [intOf] <;> omega
            · obtain rfl : j = k2 := by omega
              clear hm
              go_wp2_with fail
              go_roundw
              case rel => exact ⟨q + 1, by omega, by go_num, by rw [NX.out, EW.out]; exact HM.out, KQ.out.trans KI.out⟩
              case measure => simp [intOf] <;> omega
      · have e1 : (S1.fmt z != 2) = true := by simp [hf]
        rw [if_pos (.inl hf)] at EW
        clear hf C2 C3 SZ
        generalize S1.fmt z = fz at *
        go_wp2_with (first | (go_at_call 173; refine (C1.out _).mono ?_; rintro e w2 ⟨rfl, x2⟩; obtain ⟨y, rfl⟩ := x2))
        go_roundw
        case rel => exact ⟨q + 1, by omega, by go_num, by rw [NX.out, EW.out]; exact HM.out.ext (is_ext _ _), KQ.out.ext (is_ext _ _)⟩
        case measure => simp [intOf] <;> omega
    · obtain rfl : q = n := by omega
      go_wp2_with fail
      go_end0
      have q1 := HM.out
      rw [TA.out, ← ES.out] at q1
      exact ⟨rfl, q1, (Keep.of_ext X2.out F).trans KQ.out⟩
end
end Go.Proofs.YtjpalcejmloocaaGreat.World
