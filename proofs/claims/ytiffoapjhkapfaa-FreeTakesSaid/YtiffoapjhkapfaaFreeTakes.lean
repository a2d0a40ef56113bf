/-
  The walk of FreeTakes (chapter 4).
-/
import Derived.Test.YtiffoapjhkapfaaFreeTakesPlain
import Derived.Test.YtiffoapjhkapfaaShell
import Derived.Test.YtiffoapjhkapfaaWord
import Derived.Deep.DeepCutAuto
import Derived.IntWalk
import Derived.Deep.RegionWith
import Derived.Deep.RegionHeld3
namespace Go.Proofs.Ytiffoapjhkapfaa.Free
open Go.RowKit Go.Proofs.Ytiffoapjhkapfaa.Plain Go.Proofs.Ytiffoapjhkapfaa.Word
set_option linter.unusedVariables false

/-- all that stands at the head of the first loop -/
structure TS (w wr : World) (g ib : Nat) (av sv : Value) (k : Nat) (L T : List Run) : Prop where
  ia : IntS wr g av (T.map (·.1))
  is : IntS wr g sv (T.map (·.2))
  ap : Apart av sv
  bs : IsB wr ib (hasB T)
  fr : Fr wr g g L k
  ti : TI k L T
  x : Ext w wr
  gi : g ≤ ib
theorem TS.ext {w wr wr' : World} {g ib : Nat} {av sv : Value} {k : Nat} {L T : List Run} (h : TS w wr g ib av sv k L T) (x : Ext wr wr') : TS w wr' g ib av sv k L T :=
  ⟨h.ia.ext x, h.is.ext x, h.ap, h.bs.ext x, h.fr.ext x, h.ti, h.x.trans x, h.gi⟩
theorem ints_cell {w : World} {b g n c : Nat} {zs : List Int} (h : IntS w b (.slice (some ⟨g, 0, none⟩) n c) zs) {j : Nat} (hj : j < zs.length) : w.cell? ⟨g, j, none⟩ = some (.int .i64 (zs.getD j 0)) := by
  obtain ⟨g', e, _, _, hc⟩ := h.at_ j hj
  injection e with e
  injection e with e
  subst e
  exact hc
theorem isb_congr {w : World} {ib : Nat} {p p' : Int → Bool} (h : IsB w ib p) (e : ∀ x, p x = p' x) : IsB w ib p' := by rw [← funext e]; exact h
theorem map_at (T : List Run) (j : Nat) (h : j < T.length) : (T.map (·.1)).getD j 0 = (nth T j).1 ∧ (T.map (·.2)).getD j 0 = (nth T j).2 := by
  have := nth_some T j h
  rw [List.getD_eq_getElem?_getD, List.getD_eq_getElem?_getD, List.getElem?_map, List.getElem?_map, this]
  exact ⟨rfl, rfl⟩
set_option maxRecDepth 100000 in
set_option maxHeartbeats 4000000 in
theorem takes_core (n : Int) (a : Option Addr) (len cap : Nat) (z : Nat → Int) (by_ : Int) (w : World) (hl : len ≤ 9223372036854775807) (n1 : -9223372036854775808 ≤ n) (n2 : n ≤ 9223372036854775807) (b1 : -9223372036854775808 ≤ by_) (b2 : by_ ≤ 9223372036854775807)
    (hn : ∀ i, i < len → ∃ b off, a = some ⟨b, off, none⟩ ∧ b < w.heap.size ∧ w.cell? ⟨b, off + i, none⟩ = some (.int .i64 (z i)) ∧ -9223372036854775808 ≤ z i ∧ z i ≤ 9223372036854775807)
    (k : Nat) (hk : n % 300 = (k : Int)) (hk2 : k < 300) :
    Calls Try.prog 7 #[.int .i64 n, .slice a len cap, .int .i64 by_] w fun e w' => e = .returned (.bool true) ∧ Ext w w' := by
  have HN := Lib.hid hn
  have HK := Lib.hid hk
  have hz := zero300
  clear hn hk
  go_enter Try.func7, Try.ntmps7
  go_upto_region 2 with (go_at_call 12; refine (place _ _ _ (by omega) (by omega) (by omega) (by omega)).mono ?_; rintro e w' ⟨rfl, rfl⟩)
  rw [HK.out]
  go_wp2_with fail
  refine (new_ _ k w rfl (by omega)).mono ?_
  rintro e w1 ⟨rfl, f1, x1⟩
  generalize hgg : w.heap.size = g at *
  have HG := Lib.hid hgg
  clear hgg
  have ib0 := IsB.new w1
  have f2 := f1.ext ((Ext.refl _).alloc (.cells zeros300 46))
  have x2 := x1.alloc (.cells zeros300 46)
  have gi0 : g ≤ w1.heap.size := by have := x1.below.size; have := HG.out; omega
  go_wp2_with fail
  generalize w1.heap.size = ib at *
  go_loopw [9, 10, 12] (fun av sv i wr => ∃ (t : Nat) (L T : List Run), t ≤ len ∧ t ≤ 40 ∧ T.length ≤ t ∧ i = .int .i64 t ∧ TS w wr g ib av sv k L T) (fun _ _ i _ => len - (intOf i).toNat)
  case atStart => exact ⟨0, _, [], Nat.zero_le _, Nat.zero_le _, Nat.le_refl _, rfl, ⟨IntS.nil _ _, IntS.nil _ _, apart_nil _, ib0, f2, TI.start k, x2, gi0⟩⟩
  case round =>
    clear ib0 f2 x2 f1 x1
    obtain ⟨t, L, T, ht, ht40, htl, rfl, ts⟩ := hrel
    obtain ⟨A1, c1, rfl, ha1, ha2⟩ := ts.ia.slice
    obtain ⟨A2, c2, rfl, hb1, hb2⟩ := ts.is.slice
    have TSH := Lib.hid ts
    rw [List.length_map] at ha1 hb1 TSH ⊢
    rw [List.length_map] at TSH ⊢
    clear ts
    unfold maxLen at ha2 hb2
    by_cases hlt : t < len ∧ t < 40
    · obtain ⟨hlt, hlt40⟩ := hlt
      obtain ⟨b, off, rfl, hb, hc, z1, z2⟩ := HN.out t hlt
      have cv : wr.cell? ⟨b, off + t, none⟩ = some (.int .i64 (z t)) := (TSH.out.x.below.cell (p := ⟨b, off + t, none⟩) (by rw [HG.out]; exact hb)).trans hc
      have hbw : b < wr.heap.size := by have := TSH.out.x.below.size; have := HG.out; omega
      have d1 : decide ((t : Int) < (len : Int)) = true := by simp; omega
      have d1' : decide (t < len) = true := by simp; omega
      have d2 : decide ((t : Int) < 40) = true := by simp; omega
      have kl : (t : Int) < (len : Int) := by omega
      obtain ⟨M, hM⟩ : ∃ M : Nat, 1 + z t % 20 = (M : Int) := ⟨(1 + z t % 20).toNat, by omega⟩
      have M1 : 1 ≤ M := by omega
      have M2 : M ≤ 20 := by omega
      have HM := Lib.hid hM
      have lg := longest_ TSH.out.fr
      have LG := Lib.hid lg
      have lf := long_fits L M (by omega)
      clear hM hc lg
      go_wp2_with (go_at_call 12; refine (place _ _ _ (by omega) (by omega) (by omega) (by omega)).mono ?_; rintro e w' ⟨rfl, rfl⟩)
      rw [HM.out]
      refine LG.out.mono ?_
      rintro e w2 ⟨rfl, x2⟩
      cases hbst : bst L M L.length with
      | none =>
        have lf2 : decide ((M : Int) ≤ longL L) = false := decide_eq_false (fun h => by obtain ⟨b, hb⟩ := lf.2 h; rw [hbst] at hb; cases hb)
        have HB := Lib.hid hbst
        clear lf hbst LG
        generalize longL L = lo at *
        go_wp2_with fail
        refine (take_no (TSH.out.fr.ext x2) M (by omega) (by omega) HB.out).mono ?_
        rintro e w3 ⟨rfl, x3⟩
        go_wp2_with fail
        go_loopw [17] (fun j wq => j = .int .i64 0 ∧ Ext w3 wq) (fun _ _ => 0)
        case atStart => exact ⟨rfl, Ext.refl _⟩
        case round =>
          obtain ⟨rfl, hq⟩ := hrel
          have hmI : (0 : Int) < (M : Int) := by omega
          go_wp2_with fail
          go_roundw
          case rel => exact ⟨t + 1, L, T, by omega, by omega, by omega, by go_num, TSH.out.ext ((x2.trans x3).trans hq)⟩
          case measure => simp [intOf]; omega
      | some b' =>
        have lf2 : decide ((M : Int) ≤ longL L) = true := decide_eq_true (lf.1 ⟨b', hbst⟩)
        have HB := Lib.hid hbst
        have hbl := bst_lt L M _ b' hbst
        have hbg := bst_ge L M _ b' hbst
        have ti2 := TSH.out.ti.take TSH.out.fr.can hbl (by omega) (by omega) hbg
        have hrg := ti2.range T.length (by simp)
        rw [nth_app_eq] at hrg
        obtain ⟨p, hp⟩ : ∃ p : Nat, (nth L b').1 = (p : Int) := ⟨(nth L b').1.toNat, by have := hrg.1; omega⟩
        rw [hp] at ti2 hrg
        have hpk : p + M ≤ k := by have : (p : Int) + (M : Int) ≤ k := hrg.2.2.2; omega
        have HP := Lib.hid hp
        have TI2 := Lib.hid ti2
        have DJ : Hid (∀ j : Nat, j < M → hasB T ((p : Int) + (j : Int)) = false ∧ ¬ has (takeAt L b' M) ((p : Int) + (j : Int))) := by
          intro j hj
          have h1 : has (T ++ [((p : Int), (M : Int))]) ((p : Int) + (j : Int)) := has_app1.2 (.inr ⟨by show (p : Int) ≤ (p : Int) + j; omega, by show (p : Int) + j < (p : Int) + M; omega⟩)
          refine ⟨?_, fun h => ti2.disj _ h h1⟩
          cases hb : hasB T ((p : Int) + (j : Int)) with
          | false => rfl
          | true =>
            refine absurd ((hasB_iff _ _).1 hb) (TSH.out.ti.disj _ (has_nth.2 ⟨b', hbl, by rw [hp]; omega, by rw [hp]; omega⟩))
        clear lf hbst LG hp ti2 hrg hbl hbg
        generalize longL L = lo at *
        go_wp2_with fail
        refine (take_yes (TSH.out.fr.ext x2) M (by omega) (by omega) b' HB.out).mono ?_
        rintro e w3 ⟨rfl, f3, k3⟩
        rw [HP.out]
        have kt3 := tk_kt (TSH.out.fr.ext x2) k3
        have x3 := tk_ext k3 (Nat.le_refl _) (Nat.le_refl _) (TSH.out.x.trans x2) HG.out
        have ia3 := (TSH.out.ia.ext x2).kt kt3 (by decide)
        have is3 := (TSH.out.is.ext x2).kt kt3 (by decide)
        have bs3 := (TSH.out.bs.ext x2).kt kt3 (by decide)
        generalize takeAt L b' M = L3 at *
        clear k3 kt3 x2
        go_wp2_with fail
        go_loopw [17] (fun jv wq => ∃ j : Nat, j ≤ M ∧ jv = .int .i64 j ∧ IsB wq ib (fun x => hasB T x || decide ((p : Int) ≤ x ∧ x < (p : Int) + (j : Int))) ∧ Fr wq g g L3 k ∧ IntS wq g (.slice A1 T.length c1) (T.map (·.1)) ∧ IntS wq g (.slice A2 T.length c2) (T.map (·.2)) ∧ Ext w wq) (fun jv _ => M - (intOf jv).toNat)
        case atStart => exact ⟨0, Nat.zero_le _, rfl, isb_congr bs3 (fun x => by rw [decide_eq_false (by omega), Bool.or_false]), f3, ia3, is3, x3⟩
        case round =>
          clear f3 ia3 is3 bs3 x3
          obtain ⟨j, hj, rfl, bq, fq, iaq, isq, xq⟩ := hrel
          by_cases hjM : j < M
          · obtain ⟨dj1, dj2⟩ := DJ.out j hjM
            obtain ⟨q1, q2, q3⟩ := bq.cell (p + j) (by omega)
            rw [Int.natCast_add, dj1, decide_eq_false (by omega), Bool.or_false] at q1
            have IS := Lib.hid (is_ fq ((p : Int) + (j : Int)) false ⟨(fun h => by cases h), fun h => absurd h dj2⟩)
            have e1 : decide ((p : Int) + (j : Int) < 0) = false := by simp; omega
            have e2 : decide ((k : Int) ≤ (p : Int) + (j : Int)) = false := by simp; omega
            have e2' : decide (k ≤ p + j) = false := by simp; omega
            have e3 : (p : Int) + (j : Int) < 300 := by omega
            have e4 : ((p : Int) + (j : Int)).toNat = p + j := by omega
            have e5 : (0 : Int) ≤ (p : Int) + (j : Int) := by omega
            have jMI : (j : Int) < (M : Int) := by omega
            clear dj1 dj2
            go_wp2_with fail
            refine IS.out.mono ?_
            rintro e w4 ⟨rfl, x4⟩
            obtain ⟨q1', q2', q3'⟩ := (bq.ext x4).cell (p + j) (by omega)
            obtain ⟨b5, k5⟩ := (bq.ext x4).set (p' := fun x => hasB T x || decide ((p : Int) ≤ x ∧ x < (p : Int) + ((j + 1 : Nat) : Int))) (p + j) (by omega) (fun y => by
              rw [Bool.or_assoc]; congr 1; rw [Bool.eq_iff_iff, Bool.or_eq_true, decide_eq_true_iff, decide_eq_true_iff, decide_eq_true_iff]; omega)
            have f5 := (fq.ext x4).kt k5 (by decide) (by decide)
            have ia5 := (iaq.ext x4).kt k5 (by decide)
            have is5 := (isq.ext x4).kt k5 (by decide)
            have x5 := (xq.trans x4).setNew (p := ⟨ib, p + j, none⟩) (by rw [HG.out]; exact TSH.out.gi) (.bool true)
            clear k5 q1
            go_wp2_with fail
            go_roundw
            case rel => exact ⟨j + 1, by omega, by go_num, b5, f5, ia5, is5, x5⟩
            case measure => simp [intOf]; omega
          · obtain rfl : j = M := by omega
            have gs : g ≤ wr.heap.size := by have := xq.below.size; have := HG.out; omega
            have bq2 := isb_congr bq (fun x => (hasB_app T (p : Int) (j : Int) x).symm)
            clear bq
            have ap := TSH.out.ap
            go_wp2_with (at_builtin; refine wpList_append_int rfl (.tmp 103) (.tmp 105) rfl g _ (T.map (·.1)) rfl ?c1 p wr.heap.size rfl (Blk.new _ _ _) ?c2 ?c3 ?_)
            case c1 => exact iaq.ext ((Ext.refl _).alloc _)
            case c2 => rw [List.length_map]; omega
            case c3 => simp; omega
            intro v4 w4 ia4 k4 h4
            have kt4 := ki_kt (iaq.ext ((Ext.refl _).alloc _)) k4
            have is4 := (isq.ext ((Ext.refl _).alloc _)).ki k4 ap
            have ap4 := apart_app isq ap h4 (Nat.le_succ _)
            have x4 := ki_ext (xq.alloc _) (iaq.ext ((Ext.refl _).alloc _)) (by rw [HG.out]; exact Nat.le_refl _) k4
            have f4 := (fq.ext ((Ext.refl _).alloc _)).kt kt4 (by decide) (by decide)
            have b4 := (bq2.ext ((Ext.refl _).alloc _)).kt kt4 (by decide)
            have gs4 : g ≤ w4.heap.size := by have := x4.below.size; have := HG.out; omega
            clear k4 h4 kt4 iaq isq fq bq2 xq
            go_wp2_with (at_builtin; refine wpList_append_int rfl (.tmp 107) (.tmp 109) rfl g _ (T.map (·.2)) rfl ?c1 j w4.heap.size rfl (Blk.new _ _ _) ?c2 ?c3 ?_)
            case c1 => exact is4.ext ((Ext.refl _).alloc _)
            case c2 => rw [List.length_map]; omega
            case c3 => simp; omega
            intro v5 w5 is5 k5 h5
            have kt5 := ki_kt (is4.ext ((Ext.refl _).alloc _)) k5
            have ia5 := (ia4.ext ((Ext.refl _).alloc _)).ki k5 ap4.symm
            have ap5 := (apart_app ia4 ap4.symm h5 (Nat.le_succ _)).symm
            have x5 := ki_ext (x4.alloc _) (is4.ext ((Ext.refl _).alloc _)) (by rw [HG.out]; exact Nat.le_refl _) k5
            have f5 := (f4.ext ((Ext.refl _).alloc _)).kt kt5 (by decide) (by decide)
            have b5 := (b4.ext ((Ext.refl _).alloc _)).kt kt5 (by decide)
            clear k5 h5 kt5 ia4 is4 f4 b4 x4 ap4
            go_wp2_with fail
            go_roundw
            case rel => exact ⟨t + 1, L3, T ++ [((p : Int), (j : Int))], by omega, by omega, by rw [List.length_append]; simp; omega, by go_num, ⟨by rw [List.map_append]; exact ia5, by rw [List.map_append]; exact is5, ap5, b5, f5, TI2.out, x5, TSH.out.gi⟩⟩
            case measure => simp [intOf]; omega
    · have ways : (decide ((t : Int) < (len : Int)) = true ∧ decide (t < len) = true ∧ decide ((t : Int) < 40) = false) ∨ (decide ((t : Int) < (len : Int)) = false ∧ decide (t < len) = false) := by
        by_cases hl1 : t < len
        · exact .inl ⟨by simp; omega, by simp; omega, by simp; omega⟩
        · exact .inr ⟨by simp; omega, by simp; omega⟩
      clear hlt
      have tl40 : T.length ≤ 40 := by omega
      obtain ⟨c, hc⟩ : ∃ c : Nat, by_ % ((T.length : Int) + 1) = (c : Int) := ⟨(by_ % ((T.length : Int) + 1)).toNat, by have := Int.emod_nonneg by_ (show (T.length : Int) + 1 ≠ 0 by omega); omega⟩
      have cl : c ≤ T.length := by have := Int.emod_lt_of_pos by_ (show (0 : Int) < (T.length : Int) + 1 by omega); omega
      have HC := Lib.hid hc
      clear hc
      have TSL := Lib.hid TSH.out
      generalize htl2 : T.length = tl at *
      have HTL := Lib.hid htl2
      clear htl2
      rcases ways with ⟨q1, q2, q3⟩ | ⟨q1, q2⟩
      all_goals
        go_wp2_with (go_at_call 12; refine (place _ _ _ (by omega) (by omega) (by omega) (by omega)).mono ?_; rintro e w' ⟨rfl, rfl⟩)
        rw [HC.out]
        obtain ⟨wo, rfl⟩ : ∃ wo : World, wo = wr := ⟨_, rfl⟩
        go_loopw [19] (fun iv wq => ∃ (i : Nat) (L' : List Run), i ≤ tl ∧ iv = .int .i64 i ∧ Fr wq g g L' k ∧ (∀ x, has L' x ↔ freeAt L T c i x) ∧ IntS wq g (.slice A1 tl c1) (T.map (·.1)) ∧ IntS wq g (.slice A2 tl c2) (T.map (·.2)) ∧ Ext w wq) (fun iv _ => tl - (intOf iv).toNat)
        case atStart => exact ⟨0, L, Nat.zero_le _, rfl, TSL.out.fr, fun x => ⟨.inl, fun h => h.elim id (fun ⟨t, ht, _⟩ => by omega)⟩, TSL.out.ia, TSL.out.is, TSL.out.x⟩
        case round =>
          obtain ⟨i, L', hi, rfl, fq, hh, iaq, isq, xq⟩ := hrel
          by_cases hit : i < tl
          · have GO := Lib.hid (back_ok TSL.out.ti (by rw [HTL.out]; exact cl) (by rw [HTL.out]; exact hit) hh)
            have ST := Lib.hid (fun L'' => back_step (L'' := L'') hh)
            have jl := rot_lt cl hit
            have jm : ((i : Int) + (c : Int)) % (tl : Int) = (rot tl c i : Int) := by rw [← rot_mod cl hit, Int.natCast_emod, Int.natCast_add]
            have rg := TSL.out.ti.range (rot tl c i) (by rw [HTL.out]; exact jl)
            obtain ⟨g1, rfl, gb1, gl1, cc1⟩ := iaq.at_ (rot tl c i) (by rw [List.length_map, HTL.out]; exact jl)
            obtain ⟨g2, rfl, gb2, gl2, cc2⟩ := isq.at_ (rot tl c i) (by rw [List.length_map, HTL.out]; exact jl)
            obtain ⟨mp1, mp2⟩ := map_at T (rot tl c i) (by rw [HTL.out]; exact jl)
            rw [mp1] at cc1
            rw [mp2] at cc2
            have MP := Lib.hid (And.intro mp1 mp2)
            rw [HTL.out] at GO ST
            have gs : g ≤ wr.heap.size := by have := xq.below.size; have := HG.out; omega
            have jI : (rot tl c i : Int) < (tl : Int) := by omega
            have iI : (i : Int) < (tl : Int) := by omega
            clear mp1 mp2 hh
            generalize nth T (rot tl c i) = r at *
            generalize rot tl c i = J at *
            have IC : Hid (∀ W, IntS W g (.slice (some ⟨g1, 0, none⟩) tl c1) (T.map (·.1)) → IntS W g (.slice (some ⟨g2, 0, none⟩) tl c2) (T.map (·.2)) → W.cell? ⟨g1, J, none⟩ = some (.int .i64 r.1) ∧ W.cell? ⟨g2, J, none⟩ = some (.int .i64 r.2)) := by
              intro W i1 i2
              have e1 := ints_cell i1 (j := J) (by rw [List.length_map, HTL.out]; exact jl)
              have e2 := ints_cell i2 (j := J) (by rw [List.length_map, HTL.out]; exact jl)
              rw [MP.out.1] at e1
              rw [MP.out.2] at e2
              exact ⟨e1, e2⟩
            have C1 : Hid (∀ W, Ext wr W → Calls Try.prog 23 #[.pointer (some ⟨g, 0, none⟩), .int .i64 r.1, .int .i64 (r.2 + (k : Int))] W fun e w' => e = .returned (.bool false) ∧ Ext W w') :=
              fun W x => give_no (fq.ext x) _ _ (fun ok => by have := ok.2.2.1; omega)
            have C2 : Hid (∀ W, Ext wr W → Calls Try.prog 23 #[.pointer (some ⟨g, 0, none⟩), .int .i64 r.1, .int .i64 r.2] W (Given W g g L' k r.1 r.2)) :=
              fun W x => give (fq.ext x) (Nat.le_trans gs x.below.size) _ _ GO.out
            obtain ⟨g1', g2', g3', g4'⟩ := rg
            have wr1 : IntKind.i64.wrap (r.2 + (k : Int)) = r.2 + (k : Int) := IntWalk.i64_in _ (by omega)
            clear GO
            go_wp2_with fail
            go_region_held3 (fun w' => w'.cell? ⟨g1, J, none⟩ = some (.int .i64 r.1) ∧ w'.cell? ⟨g2, J, none⟩ = some (.int .i64 r.2)) (first | exact IC.out _ (iaq.ext (by first | exact Ext.refl _ | exact (Ext.refl _).drew | exact (Ext.refl _).drewN _)) (isq.ext (by first | exact Ext.refl _ | exact (Ext.refl _).drew | exact (Ext.refl _).drewN _)) | exact IC.out _ ia7 is7 | exact IC.out _ ia6 is6 | exact IC.out _ ia5 is5)
              (first
                | (go_at_call_of 23 (Value.int .i64 (r.2 + (k : Int))); refine (C1.out _ ?_).mono ?_; exact (Ext.refl _).drew; rintro e w5 ⟨rfl, x5⟩; have ia5 := iaq.ext ((Ext.refl _).drew.trans x5); have is5 := isq.ext ((Ext.refl _).drew.trans x5))
                | (go_at_call_of 23 (Value.int .i64 r.2); refine (C2.out _ ?_).mono ?_; exact (Ext.refl _).drew.trans x5; rintro e w6 ⟨rfl, ⟨L6, f6, h6⟩, k6⟩; have ia6 := ia5.kt (tk_kt (fq.ext ((Ext.refl _).drew.trans x5)) k6) (by decide); have is6 := is5.kt (tk_kt (fq.ext ((Ext.refl _).drew.trans x5)) k6) (by decide); have x6 := tk_ext k6 (Nat.le_refl _) (Nat.le_refl _) (xq.trans ((Ext.refl _).drew.trans x5)) HG.out)
                | (go_at_call_of 23 (Value.int .i64 1); refine (give_no f6 r.1 1 ?_).mono ?_; exact (fun ok => ok.2.2.2 r.1 (Int.le_refl _) (by omega) ((h6 r.1).2 (.inr ⟨Int.le_refl _, by omega⟩))); rintro e w7 ⟨rfl, x7⟩; have ia7 := ia6.ext x7; have is7 := is6.ext x7))
            have H6 := Lib.hid (ST.out L6 h6)
            clear wr1 C1 C2 IC ST h6 k6 cc1 cc2
            go_wp2_with fail
            go_roundw
            case rel => exact ⟨i + 1, L6, by omega, by go_num, f6.ext x7, H6.out, ia7, is7, x6.trans x7⟩
            case measure => simp [intOf]; omega
          · obtain rfl : i = tl := by omega
            obtain rfl : L' = allL k := back_end TSL.out.ti (by rw [HTL.out]; exact cl) fq.can (by rw [HTL.out]; exact hh)
            obtain ⟨aw1, aw2⟩ := all_words k
            have AW1 := Lib.hid aw1
            have AW2 := Lib.hid aw2
            have RN := Lib.hid (runs_ fq)
            clear hh aw1 aw2
            by_cases hk0 : k = 0
            · have d0 : ((k : Int) == 0) = true := by simp; omega
              have l0 : Hid ((allL k).length = 0) := by unfold allL; rw [if_pos hk0]; exact Lib.hid rfl
              clear hk0
              go_wp2_with fail
              refine RN.out.mono ?_
              rintro e w5 ⟨v5, rfl, o5, x5⟩
              obtain ⟨A5, c5, rfl, o6, o7⟩ := own_form o5
              rw [l0.out] at o6 ⊢
              clear o5
              unfold maxLen at o7
              have wd := words_ (fq.ext x5)
              rw [AW1.out] at wd
              have WD := Lib.hid wd
              clear wd
              go_wp2_with fail
              refine WD.out.mono ?_
              rintro e w6 ⟨rfl, x6⟩
              have lg := longest_ ((fq.ext x5).ext x6)
              rw [AW2.out] at lg
              have LG := Lib.hid lg
              clear lg
              go_wp2_with fail
              refine LG.out.mono ?_
              rintro e w7 ⟨rfl, x7⟩
              go_wp2_with fail
              refine (awake4 _).mono ?_
              rintro e w8 ⟨rfl, x8⟩
              go_wp2_with fail
              go_ret
              exact ⟨rfl, (((xq.trans x5).trans x6).trans x7).trans x8⟩
            · have d0 : ((k : Int) == 0) = false := by simp; omega
              have l0 : Hid (allL k = [((0 : Int), (k : Int))]) := by unfold allL; rw [if_neg hk0]; exact Lib.hid rfl
              clear hk0
              go_wp2_with fail
              refine RN.out.mono ?_
              rintro e w5 ⟨v5, rfl, o5, x5⟩
              rw [l0.out] at o5
              rcases own_rw o5 with ⟨_, hnil⟩ | ⟨gr, cr, cur, rfl, _, hr⟩
              · cases hnil
              obtain ⟨rc1, rc2⟩ := hr.get (Ext.refl _) 0 Nat.zero_lt_one
              have rl := hr.blk.lt
              have HR := Lib.hid hr
              clear o5 hr
              have wd := words_ (fq.ext x5)
              rw [AW1.out] at wd
              have WD := Lib.hid wd
              clear wd
              go_wp2_with fail
              refine WD.out.mono ?_
              rintro e w6 ⟨rfl, x6⟩
              have lg := longest_ ((fq.ext x5).ext x6)
              rw [AW2.out] at lg
              have LG := Lib.hid lg
              clear lg
              go_wp2_with fail
              refine LG.out.mono ?_
              rintro e w7 ⟨rfl, x7⟩
              obtain ⟨rc1, rc2⟩ := HR.out.get (x6.trans x7) 0 Nat.zero_lt_one
              have rc1 : w7.cell? ⟨gr, 0, none⟩ = some (.int .i64 0) := rc1
              have rc2 : w7.cell? ⟨gr, 1, none⟩ = some (.int .i64 k) := rc2
              have rl7 : gr < w7.heap.size := by have := x6.below.size; have := x7.below.size; omega
              go_wp2_with fail
              refine (awake4 _).mono ?_
              rintro e w8 ⟨rfl, x8⟩
              go_wp2_with fail
              go_ret
              exact ⟨rfl, (((xq.trans x5).trans x6).trans x7).trans x8⟩
theorem freeTakes {H : Type} {enc : TypeId × Value → H} {r : Reach} {u1 : Nat} {d1 : DataW H} {p1 : List MemPlace} (a0 : Int) (v1 : Value) (a2 : Int) (w : World) (w0 : (Lit.int .i64 a0).wf = true)
    (hv1 : Value.okWide Try.prog w r u1 22 v1) (h1 : DataW.Trod enc Try.prog w 0 (fun _ => true) true 22 v1 d1 p1) (w2 : (Lit.int .i64 a2).wf = true) :
    Calls Try.prog 7 #[.int .i64 a0, v1, .int .i64 a2] w fun e w' => e = .returned (.bool true) ∧ Below w.heap.size w w' := by
  obtain ⟨a, len, cap, z, rfl, hl, hn⟩ := Shell.open_ints Try.underlying22 Try.underlying3 (by kernel_rfl) hv1 h1
  unfold maxLen at hl
  obtain ⟨n1, n2⟩ := Shell.bounds64 w0
  obtain ⟨b1, b2⟩ := Shell.bounds64 w2
  exact (takes_core a0 a len cap z a2 w (by omega) n1 n2 b1 b2 hn (a0 % 300).toNat (by omega) (by omega)).mono fun e w' h => ⟨h.1, h.2.below⟩
end Go.Proofs.Ytiffoapjhkapfaa.Free
