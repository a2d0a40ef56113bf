/-
  The walk of the law FrameHomes.
-/
import Derived.Test.YtnhijjcplnomgaaFrame7
import Derived.Test.YtnhijjcplnomgaaWord
import Derived.Deep.AppendLies
import Derived.OpenShut
namespace Go.Proofs.Ytnhijjcplnomgaa.World
open Go.RowKit Go.Proofs.Ytnhijjcplnomgaa.Plain
set_option linter.unusedVariables false
attribute [local go_sem ↓] Go.wp_at_zero Go.wp_at_succ
def W15 : PW := (firstW.meth 0 4 0).start 24 4 (num 0) 5
theorem w15_check : checkB W15 = true := by decide +kernel
theorem w15_len : W15.L.length = 27 := by
  unfold W15 PW.start PW.meth; rw [len_add, len_add, len_add, len_add]; rfl
theorem w15_at (i : Nat) (hi : i < 23) : tAt W15.L i = firstT i := by
  unfold W15 PW.start PW.meth
  have e : firstW.L.length = 23 := rfl
  rw [tAt_add _ _ _ _ _ _ (by simp only [len_add]; omega), tAt_add _ _ _ _ _ _ (by simp only [len_add]; omega), tAt_add _ _ _ _ _ _ (by simp only [len_add]; omega), tAt_add _ _ _ _ _ _ (by omega)]
  exact first_at i hi
theorem hom1 : Hom (newS W15 5) 1 := by
  refine ⟨std_new w15_check w15_at 5, rfl, w15_len, by decide +kernel, fun j hj => ?_, fun j hj => ?_, fun j hj => ?_, fun j h0 hj => by omega⟩
  · obtain rfl : j = 0 := by omega
    have : (newS W15 5).isFrame 25 = true := by decide +kernel
    exact this
  · obtain rfl : j = 0 := by omega
    show (newS W15 5).get 25 3 = objV 24
    kernel_rfl
  · obtain rfl : j = 0 := by omega
    show (newS W15 5).get 25 5 = objV 0
    kernel_rfl
def idsL (i : Nat) : List Int := (List.range i).map homeId
theorem idsL_len (i : Nat) : (idsL i).length = i := by unfold idsL; simp
theorem idsL_succ (i : Nat) : idsL (i + 1) = idsL i ++ [homeId i] := by unfold idsL; rw [List.range_succ, List.map_append]; rfl
theorem idsL_at (k i : Nat) (h : i < k) : (idsL k).getD i 0 = homeId i := by unfold idsL; simp [List.getD, h]
theorem set_phase (S : MS) (i j : Int) (v : PV) : (S.set i j v).phase = S.phase := by unfold MS.set; split <;> rfl
theorem ownN_one {w : World} {g base : Nat} {x : Int} (h : Blk w g 3 #[.int .i64 x]) (hb : base ≤ g) : OwnN w base (.slice (some ⟨g, 0, none⟩) 1 1) [x] :=
  ⟨rfl, .inr ⟨g, 1, _, rfl, hb, h, Nat.le_refl _, by unfold maxLen; omega, rfl, rfl⟩⟩
set_option maxRecDepth 100000 in
set_option maxHeartbeats 1000000 in
theorem frameHomes (a0 a1 a2 : Int) (w0 : (Lit.int .i64 a0).wf = true) (w1 : (Lit.int .i64 a1).wf = true) (w2 : (Lit.int .i64 a2).wf = true) (w : World) :
    Calls Try.prog 3 #[.int .i64 a0, .int .i64 a1, .int .i64 a2] w fun e w' => e = .returned (.bool true) ∧ Below w.heap.size w w' := by
  obtain ⟨x1, x2⟩ := bounds_i64 w0
  obtain ⟨x3, x4⟩ := bounds_i64 w1
  obtain ⟨x5, x6⟩ := bounds_i64 w2
  clear w0 w1 w2
  obtain ⟨k, hk⟩ : ∃ k : Nat, (k : Int) = 1 + a0 % 9 := ⟨(1 + a0 % 9).toNat, by omega⟩
  have k1 : 1 ≤ k := by omega
  have k9 : k ≤ 9 := by omega
  have HK := Lib.hid hk
  have HF := Lib.hid (@first_ w)
  have HN := Lib.hid lnum
  have HO := Lib.hid lobj
  unfold val num at HN
  unfold val objV at HO
  clear hk
  go_enter Try.func3, Try.ntmps3
  go_wp2_with (go_at_call 5; refine (Word.place _ _ _ (by omega) (by omega) (by omega) (by omega)).mono ?_; rintro e w' ⟨rfl, rfl⟩)
  rw [← HK.out]
  refine HF.out.mono ?_
  clear HF
  rintro e w1 ⟨x, rfl, b1, x1'⟩
  obtain ⟨vL, fs, vD, vRe, vWa, vDu, vSn⟩ := x
  obtain ⟨y1, y2, y3, y4, y5⟩ := b1.bare
  simp only at y1 y2 y3 y4 y5
  subst y1 y2 y3 y4 y5
  obtain ⟨A, cp, hA⟩ := b1.L.form
  have hA : vL = .slice A 23 cp := hA
  subst hA
  unfold cellsW firstW regs0
  go_wp2_with fail
  refine calls_name (fun w2 hW => ?_)
  have xb : Ext w1 w2 := by rw [hW]; exact is_ext _ _
  have B2 : BAt w2 w.heap.size w1.heap.size firstW ⟨.slice A 23 cp, fs, .slice none 0 0, .slice none 0 0, .slice none 0 0, .slice none 0 0, .slice none 0 0⟩ := ⟨by rw [hW]; exact Blk.new _ _ _, b1.ext xb⟩
  have X2 := Lib.hid (x1'.trans xb)
  have BH := Lib.hid B2
  have s1 := x1'.below.size
  clear hW B2 b1 x1' xb
  generalize hb : w1.heap.size = b at *
  have CM := bmeth BH.out X2.out.below.size 0 4 0 (by decide) (by decide)
  rw [show ((firstW.L.length + 1 : Nat) : Int) = 24 from rfl] at CM
  refine CM.mono ?_
  clear CM
  rintro e w3 ⟨rfl, ⟨x3', h3⟩, k3⟩
  have X3 : Hid (Ext w w3) := Lib.hid (Ext.of_below (Keep.below X2.out.below k3 X2.out.below.size (fun i hi h => by omega)))
  have H3 := Lib.hid h3
  clear h3 k3 BH X2
  go_wp2_with fail
  refine (HN.out _ _).mono ?_
  rintro e w4 ⟨rfl, x4'⟩
  have X4 := Lib.hid (X3.out.trans x4')
  have CS := bstart (H3.out.ext x4') X4.out.below.size 24 4 5 (num 0) (by decide) (by decide)
  rw [show (((firstW.meth 0 4 0).L.length + 1 : Nat) : Int) = 26 from rfl, show (((firstW.meth 0 4 0).L.length : Nat) : Int) = 25 from rfl] at CS
  replace CS := Lib.hid CS
  unfold val num at CS
  clear x4' H3 X3
  go_wp2_with fail
  refine CS.out.mono ?_
  rintro e w5 ⟨rfl, ⟨x5', h5⟩, k5⟩
  have X5 : Hid (Ext w w5) := Lib.hid (Ext.of_below (Keep.below X4.out.below k5 X4.out.below.size (fun i hi h => by omega)))
  obtain ⟨p1, p2, p3⟩ := h5.blk.rules
  have CN := Lib.hid (objnew (W := W15) (h5.bu.at_ (nums_of_check w15_check)) w15_check rfl 5)
  unfold cellsW at p1
  unfold cellsW at CN
  unfold W15 num at CN
  clear h5 k5 CS X4
  generalize hW0 : (firstW.meth 0 4 0).start 24 4 ⟨false, 0⟩ 5 = W0 at *
  go_wp2_with fail
  refine CN.out.mono ?_
  rintro e w6 ⟨m, F, rfl, m6, hF, x6'⟩
  have X6 := Lib.hid (X5.out.trans x6')
  obtain ⟨S, hS⟩ : ∃ S, S = newS W15 5 := ⟨_, rfl⟩
  have HM : Hom S 1 := by rw [hS]; exact hom1
  have m6 : M w6 F m S := by
    rw [hS]
    have e : W0 = W15 := hW0.symm
    rw [← e]; exact m6
  have FL : Hid (∀ k, F k → w.heap.size ≤ k) := Lib.hid (fun k hk => by have := hF k hk; have := X5.out.below.size; omega)
  have M6 := Lib.hid m6
  have HMH := Lib.hid HM
  clear hF m6 x6' hS CN p1 p2 p3 HM X5
  go_upto_region 9 with (fail)
  refine wp_name (fun w7 hW => ?_)
  have H7 : Hid (HS w w7 F m S (.slice (some ⟨w6.heap.size, 0, none⟩) 1 1) (idsL 1)) := Lib.hid (by
    have x7 : Ext w6 w7 := by rw [hW]; exact is_ext _ _
    refine ⟨M6.out.ext x7, ownN_one (by rw [hW]; exact Blk.new _ _ _) X6.out.below.size, fun g hg hf => ?_, FL.out, X6.out.trans x7⟩
    simp [Value.ownBlock] at hg
    subst hg
    have := M6.out.lt _ hf
    omega)
  clear hW M6 FL X6
  generalize w6.heap.size = g7 at *
  go_wp2_with fail
  go_loopw [11, 14, 15] (fun idv v iv wr => ∃ i : Nat, 1 ≤ i ∧ i ≤ k ∧ idv = .int .i64 (homeId (i - 1)) ∧ iv = .int .i64 i ∧ ∃ S F', HS w wr F' m S v (idsL i) ∧ Hom S i) (fun _ _ iv _ => k - (intOf iv).toNat)
  case atStart => exact ⟨1, by omega, k1, rfl, rfl, S, F, H7.out, HMH.out⟩
  case round =>
    clear H7 HMH
    obtain ⟨i, hi1, hik, rfl, rfl, S, F', hs, hm⟩ := hrel
    have i0 : IsExt wr wr := ⟨Ext.refl _⟩
    obtain ⟨A1, c1, hA1⟩ := hs.own.form
    rw [idsL_len] at hA1
    subst hA1
    have H0 := Lib.hid hs
    have HM0 := Lib.hid hm
    by_cases hlt : i < k
    · have iI : (i : Int) < (k : Int) := by omega
      have st := hm.step hi1 (by omega)
      obtain ⟨bo, be, bi, _⟩ := hm.std.block0 (by rw [hm.last, hm.len]; omega)
      have ph : S.phase ≠ 1 := by rw [hm.std.ph]; decide
      have CM := mmake hs.mem ph 13 0
      rw [bo, be, bi] at CM
      replace CM := Lib.hid CM
      have PH := Lib.hid ph
      have ST := Lib.hid st
      clear bo be bi st ph hs hm
      go_wp2_with fail
      refine CM.out.mono ?_
      rintro e wA ⟨rfl, gA⟩
      obtain ⟨FA, hA⟩ := H0.out.goes gA
      have HA := Lib.hid hA
      clear gA hA CM i0
      have iA : IsExt wA wA := ⟨Ext.refl _⟩
      have C0 := Lib.hid (fun W [x : IsExt wA W] => mset (HA.out.ext x.out).mem PH.out S.L.length 0 (objV (homeId (i - 1))))
      rw [show S.block0.setOK S.L.length 0 (objV (homeId (i - 1))) = true from ST.out.nb.a] at C0
      unfold val objV at C0
      go_wp2_with fail
      refine (HO.out _ _).mono ?_
      rintro e wB ⟨rfl, xB⟩
      have iB : IsExt wA wB := ⟨(is_ext wA _).trans xB⟩
      clear xB
      go_wp2_with fail
      refine (C0.out _).mono ?_
      rintro e wC ⟨rfl, mC, kC⟩
      have HC : Hid (HS w wC FA m (S.blockA (homeId (i - 1))) (.slice A1 i c1) (idsL i)) := Lib.hid ((HA.out.ext (is_ext _ _)).keep kC mC)
      have iC : IsExt wC wC := ⟨Ext.refl _⟩
      clear kC mC C0 HA iA iB
      have C1 := Lib.hid (fun W [x : IsExt wC W] => mset (HC.out.ext x.out).mem (by rw [show S.blockA (homeId (i - 1)) = S.block0.set S.L.length 0 (objV (homeId (i - 1))) from rfl, set_phase]; exact PH.out) S.L.length 1 (num 0))
      rw [ST.out.nb.b] at C1
      unfold val num at C1
      go_wp2_with fail
      refine (C1.out _).mono ?_
      rintro e wD ⟨rfl, mD, kD⟩
      have HD : Hid (HS w wD FA m (S.blockB (homeId (i - 1))) (.slice A1 i c1) (idsL i)) := Lib.hid ((HC.out.ext (is_ext _ _)).keep kD mD)
      have iD : IsExt wD wD := ⟨Ext.refl _⟩
      clear kD mD C1 HC iC
      have C2 := Lib.hid (fun W [x : IsExt wD W] => mset (HD.out.ext x.out).mem (by rw [show S.blockB (homeId (i - 1)) = (S.block0.set S.L.length 0 (objV (homeId (i - 1)))).set S.L.length 1 (num 0) from rfl, set_phase, set_phase]; exact PH.out) S.L.length 2 (num 4))
      rw [ST.out.nb.c] at C2
      unfold val num at C2
      go_wp2_with fail
      refine (C2.out _).mono ?_
      rintro e wE ⟨rfl, mE, kE⟩
      have HE : Hid (HS w wE FA m (S.blockC (homeId (i - 1))) (.slice A1 i c1) (idsL i)) := Lib.hid ((HD.out.ext (is_ext _ _)).keep kE mE)
      have iE : IsExt wE wE := ⟨Ext.refl _⟩
      clear kE mE C2 HD iD
      have C3 := Lib.hid (fun W [x : IsExt wE W] => mset (HE.out.ext x.out).mem (by rw [show S.blockC (homeId (i - 1)) = ((S.block0.set S.L.length 0 (objV (homeId (i - 1)))).set S.L.length 1 (num 0)).set S.L.length 2 (num 4) from rfl, set_phase, set_phase, set_phase]; exact PH.out) S.L.length 3 (num 0))
      rw [ST.out.nb.d] at C3
      unfold val num at C3
      go_wp2_with fail
      refine (C3.out _).mono ?_
      rintro e wG ⟨rfl, mG, kG⟩
      have HG : Hid (HS w wG FA m (homeB S i) (.slice A1 i c1) (idsL i)) := Lib.hid ((HE.out.ext (is_ext _ _)).keep kG mG)
      have iG : IsExt wG wG := ⟨Ext.refl _⟩
      clear kG mG C3 HE iE
      have CB := Lib.hid (fun W [x : IsExt wG W] => fblock (HG.out.ext x.out).mem S.L.length)
      rw [show (homeB S i).isBlock S.L.length = true from ST.out.nb.is] at CB
      have hm := HM0.out
      have st := ST.out
      have eid : ((homeB S i).L.length : Int) = homeId i := by
        have a := st.len
        have b := hm.len
        unfold homeId; rw [if_neg (by omega)]; omega
      have hbk : (homeB S i).has S.L.length = true := (st.nb.sim.has _).trans (MS.has_add_new hm.std.wf)
      have CF := Lib.hid (fun W [x : IsExt wG W] => fnew14 (HG.out.ext x.out).mem st.nb.std (by have a := st.last; have b := hm.last; have c := hm.len; show (homeB S i).last < 3000; omega) (sender := homeId (i - 1)) (meth := 24) (block := S.L.length) (self := num i) (pc := 0) (temps := 4) st.has st.meth hbk (MS.may_num _ (by omega)) (by omega) (by omega))
      rw [eid] at CF
      unfold val num at CF
      have HN1 := Lib.hid (hm.next hi1 (by omega))
      clear hm st eid hbk
      go_wp2_with fail
      refine (CB.out _).mono ?_
      rintro e wI ⟨rfl, xI⟩
      have iI' : IsExt wG wI := ⟨(is_ext wG _).trans xI⟩
      clear xI CB
      go_wp2_with fail
      refine (CF.out _).mono ?_
      rintro e wJ ⟨rfl, gJ⟩
      obtain ⟨FJ, hJ⟩ := (HG.out.ext (is_ext _ _)).goes gJ
      have HJ : Hid (HS w wJ FJ m (homeF S i) (.slice A1 i c1) (idsL i)) := Lib.hid hJ
      clear gJ hJ CF HG iG iI'
      obtain ⟨i0', hi0, hz0, hz1, hz2⟩ := info_parts infoInt
      have O2 : Hid (wJ.ownsRow w.heap.size 3 1 (.slice A1 i c1) i ((idsL i).map (Value.int .i64))) := Lib.hid (by
        have q : wJ.ownsRow w.heap.size 3 1 (.slice A1 i c1) (idsL i).length ((idsL i).map (Value.int .i64)) := HJ.out.own
        rw [idsL_len] at q; exact q)
      have sJ : w.heap.size ≤ wJ.heap.size := HJ.out.x.below.size
      go_wp2_with (at_builtin; refine wpList_append_lies _ rfl _ _ _ rfl w.heap.size 3 i0' (.int .i64 0) 1 8 Try.underlying26 hi0 hz0 hz1 hz2 rfl (by decide) _ _ _ (by rfl) (World.ownsRow.alloc O2.out _) ⟨wJ.heap.size, 0, none⟩ 1 1 [.int .i64 (homeId i)] (by rfl) (by rfl) (World.news_of_block (heap_alloc_new wJ _)) (by simp [Value.oneCell']) (by omega) (by unfold maxLen; omega) (by omega) (by simp; omega) (wJ.heap.size + 1) (by simp) ?_; intro gg cc w9 o3 g3 hat hlt3)
      have h9 := HJ.out.app (idsL_len i) g3 hat o3
      rw [← idsL_succ] at h9
      have H9 := Lib.hid h9
      clear o3 g3 hat h9 O2 HJ
      go_roundw
      case rel => exact ⟨i + 1, by omega, by omega, rfl, by go_num, _, _, H9.out, HN1.out⟩
      case measure => simp [intOf]; omega
    · obtain rfl : i = k := by omega
      clear hs hm
      go_wp2_with fail
      have ik : 1 ≤ i := hi1
      go_loopw [20] (fun iv wr => ∃ a : Nat, a ≤ i ∧ iv = .int .i64 a ∧ ∃ S, HS w wr F' m S (.slice A1 i c1) (idsL i) ∧ HomV S i (4 * a)) (fun iv _ => i - (intOf iv).toNat)
      case atStart => exact ⟨0, by omega, rfl, S, H0.out, ⟨HM0.out, fun j q _ _ h => absurd h (by omega)⟩⟩
      case round =>
        clear H0 HM0 i0 hlt
        obtain ⟨a, ha, rfl, T, hs, hv⟩ := hrel
        have H1 := Lib.hid hs
        have V1 := Lib.hid hv
        clear hs hv
        by_cases hl2 : a < i
        · have aI : (a : Int) < (i : Int) := by omega
          go_wp2_with fail
          go_loopw [21] (fun jv wr => ∃ q : Nat, q ≤ 4 ∧ jv = .int .i64 q ∧ ∃ S, HS w wr F' m S (.slice A1 i c1) (idsL i) ∧ HomV S i (4 * a + q)) (fun jv _ => 4 - (intOf jv).toNat)
          case atStart => exact ⟨0, by omega, rfl, T, H1.out, V1.out⟩
          case round =>
            clear H1 V1
            obtain ⟨q, hq, rfl, U, hs, hv⟩ := hrel
            by_cases hq4 : q < 4
            · have qI : (q : Int) < 4 := by omega
              obtain ⟨ok, hv2⟩ := hv.set hl2 hq4 rfl (by omega)
              obtain ⟨g, c, e, _, _, hg, hc, _⟩ := hs.own.at_ a (by rw [idsL_len]; omega)
              rw [idsL_at _ _ hl2] at hc
              injection e with e1 e2 e3
              subst e1
              clear e2 e3
              have CS := fsettemp hs.mem (by rw [hv.hom.std.ph]; decide) (id := homeId a) (out := 0) (j := homeId a) (.inl ⟨0, rfl, by omega, hv.hom.is a hl2, rfl⟩) q (by omega) (num (10 * a + q))
              rw [ok] at CS
              replace CS := Lib.hid CS
              unfold val num at CS
              have H2 := Lib.hid hs
              have V2 := Lib.hid hv2
              have aN : (a : Int) < 9 := by omega
              clear hs hv hv2 ok
              go_wp2_with fail
              refine CS.out.mono ?_
              rintro e wA ⟨rfl, mA, kA⟩
              have H3 := Lib.hid (H2.out.keep kA mA)
              clear mA kA CS H2 hc hg
              go_wp2_with fail
              go_roundw
              case rel => exact ⟨q + 1, by omega, by go_num, _, H3.out, V2.out⟩
              case measure => simp [intOf]; omega
            · obtain rfl : q = 4 := by omega
              have H2 := Lib.hid hs
              have V2 := Lib.hid hv
              clear hs hv
              go_wp2_with fail
              go_roundw
              case rel => exact ⟨a + 1, by omega, by go_num, U, H2.out, by rw [show 4 * (a + 1) = 4 * a + 4 from by omega]; exact V2.out⟩
              case measure => simp [intOf]; omega
        · obtain rfl : a = i := by omega
          obtain ⟨op, hop⟩ : ∃ n : Nat, (n : Int) = a1 % 11 := ⟨(a1 % 11).toNat, by omega⟩
          obtain ⟨tp, htp⟩ : ∃ n : Nat, (n : Int) = a2 % 4 := ⟨(a2 % 4).toNat, by omega⟩
          have op1 : op ≤ 10 := by omega
          have tp1 : tp ≤ 3 := by omega
          have HOP := Lib.hid hop
          have HTP := Lib.hid htp
          have hx := H1.out
          have hv := V1.out
          have mm := hx.mem
          have fr := hv.hom.is (a - 1) (by omega)
          obtain ⟨inn, vv, hinn, hvv, CT1⟩ : ∃ (inn : Bool) (vv : Int), inn = decide (op < a ∧ op ≤ 8) ∧ (inn = true → vv = 10 * ((a : Int) - 1 - op) + tp) ∧ Hid (∀ W [x : IsExt wr W], Calls Try.prog 17 #[.pointer (some ⟨m, 0, none⟩), .int .i64 (homeId (a - 1)), .int .i64 op, .int .i64 tp] W fun e w' => e = .returned (.tuple #[.agg #[.bool false, .int .i64 vv], .bool inn]) ∧ Ext W w') := by
            by_cases h8 : op ≤ 8
            · by_cases hio : op < a
              · refine ⟨true, 10 * ((a - 1 - op : Nat) : Int) + tp, (decide_eq_true ⟨hio, h8⟩).symm, fun _ => by omega, Lib.hid (fun W x => ?_)⟩
                have c := ftemp (mm.ext x.out) (id := homeId (a - 1)) (out := op) (r := some (homeId (a - 1 - op))) (.inl ⟨op, rfl, h8, fr, by rw [hv.hom.outN op (a - 1) (by omega), if_pos (by omega)]⟩) tp (by omega)
                have e1 : tempOK (some (homeId (a - 1 - op))) tp = true := by unfold tempOK; rw [decide_eq_true (by omega)]; rfl
                have e2 : tempV T (some (homeId (a - 1 - op))) tp = num (10 * ((a - 1 - op : Nat) : Int) + tp) := by
                  unfold tempV; rw [e1, if_pos rfl]; exact hv.val (a - 1 - op) tp (by omega) (by omega) (by omega)
                rw [e1, e2] at c
                exact c
              · refine ⟨false, 0, (decide_eq_false (fun h => hio h.1)).symm, fun h => (by cases h), Lib.hid (fun W x => ?_)⟩
                exact ftemp (mm.ext x.out) (id := homeId (a - 1)) (out := op) (r := none) (.inl ⟨op, rfl, h8, fr, by rw [hv.hom.outN op (a - 1) (by omega), if_neg (by omega)]⟩) tp (by omega)
            · refine ⟨false, 0, (decide_eq_false (fun h => h8 h.2)).symm, fun h => (by cases h), Lib.hid (fun W x => ?_)⟩
              exact ftemp_big (mm.ext x.out) (by omega) _
          have CT2 : Hid (∀ W [x : IsExt wr W], Calls Try.prog 17 #[.pointer (some ⟨m, 0, none⟩), .int .i64 (homeId (a - 1)), .int .i64 0, .int .i64 16] W fun e w' => e = .returned (.tuple #[.agg #[.bool false, .int .i64 0], .bool false]) ∧ Ext W w') :=
            Lib.hid (fun W x => ftemp (mm.ext x.out) (id := homeId (a - 1)) (out := 0) (r := some (homeId (a - 1))) (.inl ⟨0, rfl, by omega, fr, rfl⟩) 16 (by omega))
          have CT3 : Hid (∀ W [x : IsExt wr W], Calls Try.prog 17 #[.pointer (some ⟨m, 0, none⟩), .int .i64 (homeId (a - 1)), .int .i64 (-1), .int .i64 0] W fun e w' => e = .returned (.tuple #[.agg #[.bool false, .int .i64 0], .bool false]) ∧ Ext W w') :=
            Lib.hid (fun W x => ftemp (mm.ext x.out) (id := homeId (a - 1)) (out := -1) (r := none) (.inr ⟨by omega, rfl⟩) 0 (by omega))
          have XR := Lib.hid hx.x
          have HI := Lib.hid hinn
          have HV := Lib.hid hvv
          have AW := Lib.hid awake14
          have iR : IsExt wr wr := ⟨Ext.refl _⟩
          clear hop htp hx hv mm fr hinn hvv H1 V1 hl2
          go_wp2_with (go_at_call 5; refine (Word.place _ _ _ (by omega) (by omega) (by omega) (by omega)).mono ?_; rintro e w' ⟨rfl, rfl⟩)
          rw [← HOP.out, ← HTP.out]
          refine (CT1.out _).mono ?_
          rintro e wA ⟨rfl, xA⟩
          have iA : IsExt wr wA := ⟨xA⟩
          clear xA CT1 iR
          go_wp2_with fail
          refine calls_name (fun wB hB => ?_)
          have iB : IsExt wr wB := ⟨by rw [hB]; exact is_ext _ _⟩
          have B24 := Lib.hid (show Blk wB wA.heap.size 40 #[.bool false, .int .i64 vv] from by rw [hB]; exact Blk.new _ _ _)
          clear hB iA
          generalize wA.heap.size = g24 at *
          refine (CT2.out _).mono ?_
          rintro e wC ⟨rfl, xC⟩
          have iC : IsExt wr wC := ⟨iB.out.trans xC⟩
          replace B24 := Lib.hid (B24.out.ext xC)
          clear xC CT2 iB
          go_wp2_with fail
          refine calls_name (fun wD hD => ?_)
          have xD : Ext wC wD := by rw [hD]; exact is_ext _ _
          have iD : IsExt wr wD := ⟨iC.out.trans xD⟩
          replace B24 := Lib.hid (B24.out.ext xD)
          clear hD xD iC
          generalize wC.heap.size = g26 at *
          refine (CT3.out _).mono ?_
          rintro e wE ⟨rfl, xE⟩
          have iE : IsExt wr wE := ⟨iD.out.trans xE⟩
          replace B24 := Lib.hid (B24.out.ext xE)
          clear xE CT3 iD
          obtain ⟨r1, r2, r3⟩ := B24.out.rules
          have a9 : (a : Int) ≤ 9 := by omega
          have o10 : (op : Int) ≤ 10 := by omega
          have t3 : (tp : Int) ≤ 3 := by omega
          by_cases hio : op < a
          · have d1 : decide ((op : Int) < (a : Int)) = true := decide_eq_true (by omega)
            by_cases h8 : op ≤ 8
            · have d2 : decide ((op : Int) ≤ 8) = true := decide_eq_true (by omega)
              obtain rfl : inn = true := by rw [HI.out]; exact decide_eq_true ⟨hio, h8⟩
              obtain rfl := HV.out rfl
              clear HI HV B24
              go_wp2_with (go_at_call 18; refine (AW.out _).mono ?_; rintro e wF ⟨rfl, xF⟩; have iF : IsExt wr wF := ⟨(is_ext wr _).trans xF⟩; clear xF)
              go_ret
              exact ⟨rfl, (XR.out.trans iF.out).below⟩
            · have d2 : decide ((op : Int) ≤ 8) = false := decide_eq_false (by omega)
              obtain rfl : inn = false := by rw [HI.out]; exact decide_eq_false (fun h => h8 h.2)
              clear HI HV B24 h8 hio
              go_wp2_with (go_at_call 18; refine (AW.out _).mono ?_; rintro e wF ⟨rfl, xF⟩; have iF : IsExt wr wF := ⟨(is_ext wr _).trans xF⟩; clear xF)
              all_goals go_ret
              all_goals exact ⟨rfl, (XR.out.trans iF.out).below⟩
          · have d1 : decide ((op : Int) < (a : Int)) = false := decide_eq_false (by omega)
            obtain rfl : inn = false := by rw [HI.out]; exact decide_eq_false (fun h => hio h.1)
            clear HI HV B24
            go_wp2_with (go_at_call 18; refine (AW.out _).mono ?_; rintro e wF ⟨rfl, xF⟩; have iF : IsExt wr wF := ⟨(is_ext wr _).trans xF⟩; clear xF)
            go_ret
            exact ⟨rfl, (XR.out.trans iF.out).below⟩
end Go.Proofs.Ytnhijjcplnomgaa.World
