/-
  The walk of FreeBest (chapter 4).
-/
import Derived.Test.YtiffoapjhkapfaaFree10
import Derived.Test.YtiffoapjhkapfaaShell
import Derived.Test.YtiffoapjhkapfaaWord
import Derived.StillTailTactics
namespace Go.Proofs.Ytiffoapjhkapfaa.Free
open Go.RowKit Go.Proofs.Ytiffoapjhkapfaa.Plain Go.Proofs.Ytiffoapjhkapfaa.Word
set_option linter.unusedVariables false

/-! ### plain -/
theorem can_snoc {L : List Run} {lo a n : Int} (h : Can lo L) (hr : ∀ r ∈ L, r.1 + r.2 + 1 ≤ a) (hlo : lo ≤ a) (hn : 1 ≤ n) : Can lo (L ++ [(a, n)]) := by
  induction L generalizing lo with
  | nil => exact ⟨hlo, hn, trivial⟩
  | cons r L ih => exact ⟨h.1, h.2.1, ih h.2.2 (fun s hs => hr s (List.mem_cons_of_mem _ hs)) (hr r List.mem_cons_self)⟩
section
variable (ms : Nat → Nat)
def pf : Nat → Nat
  | 0 => 0
  | i + 1 => pf i + ms i + 1
def holes (k : Nat) : List Run := (List.range k).map fun j => ((pf ms j : Int), (ms j : Int))
variable {ms}
theorem pf_le (hm : ∀ i, ms i ≤ 12) (i : Nat) : pf ms i ≤ 13 * i := by
  induction i with
  | zero => simp [pf]
  | succ i ih => have := hm i; simp only [pf]; omega
theorem pf_lt {i j : Nat} (h : i < j) : pf ms i + ms i + 1 ≤ pf ms j := by
  induction j with
  | zero => omega
  | succ j ih =>
    rcases Nat.lt_or_ge i j with h1 | h1
    · have := ih h1; simp only [pf]; omega
    · obtain rfl : i = j := by omega
      simp only [pf]; omega
theorem holes_succ (k : Nat) : holes ms (k + 1) = holes ms k ++ [((pf ms k : Int), (ms k : Int))] := by
  unfold holes; rw [List.range_succ, List.map_append]; rfl
theorem holes_len (k : Nat) : (holes ms k).length = k := by simp [holes]
theorem holes_mem {k : Nat} {r : Run} (h : r ∈ holes ms k) : ∃ j, j < k ∧ r = ((pf ms j : Int), (ms j : Int)) := by
  unfold holes at h
  obtain ⟨j, hj, rfl⟩ := List.mem_map.1 h
  exact ⟨j, List.mem_range.1 hj, rfl⟩
theorem holes_nth {k j : Nat} (h : j < k) : nth (holes ms k) j = ((pf ms j : Int), (ms j : Int)) := by
  unfold nth holes
  rw [List.getD_eq_getElem?_getD, List.getElem?_map, List.getElem?_range h]; rfl
theorem holes_can (h1 : ∀ i, 1 ≤ ms i) (k : Nat) : Can 0 (holes ms k) := by
  induction k with
  | zero => trivial
  | succ k ih =>
    rw [holes_succ]
    refine can_snoc ih (fun r hr => ?_) (by omega) (by have := h1 k; omega)
    obtain ⟨j, hj, rfl⟩ := holes_mem hr
    have := pf_lt (ms := ms) hj
    show (pf ms j : Int) + (ms j : Int) + 1 ≤ _
    omega
theorem holes_ok (h1 : ∀ i, 1 ≤ ms i) (hm : ∀ i, ms i ≤ 12) (k : Nat) (hk : k < 30) : GiveOk (holes ms k) 1000 (pf ms k) (ms k) := by
  have := pf_le hm k
  have := h1 k
  have := hm k
  refine ⟨by omega, by omega, by omega, fun x hx1 hx2 hh => ?_⟩
  obtain ⟨r, hr, h3, h4⟩ := hh
  obtain ⟨j, hj, rfl⟩ := holes_mem hr
  have := pf_lt (ms := ms) hj
  have h4 : x < (pf ms j : Int) + (ms j : Int) := h4
  omega
theorem holes_given {L' : List Run} (h1 : ∀ i, 1 ≤ ms i) (k : Nat) (hc : Can 0 L') (hh : ∀ x, has L' x ↔ has (holes ms k) x ∨ ((pf ms k : Int) ≤ x ∧ x < (pf ms k : Int) + (ms k : Int))) : L' = holes ms (k + 1) := by
  refine can_unique _ _ 0 0 hc (holes_can h1 _) (fun x => ?_)
  rw [hh, holes_succ, has_append, has_cons]
  constructor
  · rintro (h | h)
    · exact .inl h
    · exact .inr (.inl h)
  · rintro (h | h | h)
    · exact .inl h
    · exact .inr h
    · exact absurd h (has_nil _)
end
def lastL (p : Nat) : List Run := [((p : Int), 1000 - (p : Int))]
theorem last_take (p n : Nat) (h : p + n < 1000) (hn : 1 ≤ n) : bst (lastL p) n (lastL p).length = some 0 ∧ takeAt (lastL p) 0 n = lastL (p + n) ∧ nth (lastL p) 0 = ((p : Int), 1000 - (p : Int)) := by
  refine ⟨?_, ?_, rfl⟩
  · show (match (none : Option Nat) with | none => if (n : Int) ≤ 1000 - (p : Int) then some 0 else none | some b => some b) = _
    simp only
    rw [if_pos (by omega)]
  · rw [lastL, takeAt_zero, if_neg (by show ¬ 1000 - (p : Int) = n; omega)]
    unfold lastL
    show [((p : Int) + (n : Int), 1000 - (p : Int) - (n : Int))] = _
    rw [show (p : Int) + (n : Int) = ((p + n : Nat) : Int) from by omega, show 1000 - (p : Int) - (n : Int) = 1000 - ((p + n : Nat) : Int) from by omega]
theorem last_all (p : Nat) (h : p < 1000) : bst (lastL p) (1000 - (p : Int)) (lastL p).length = some 0 ∧ takeAt (lastL p) 0 (1000 - (p : Int)) = [] ∧ longL (lastL p) = 1000 - (p : Int) := by
  refine ⟨?_, ?_, ?_⟩
  · show (match (none : Option Nat) with | none => if 1000 - (p : Int) ≤ 1000 - (p : Int) then some 0 else none | some b => some b) = _
    simp only
    rw [if_pos (Int.le_refl _)]
  · rw [lastL, takeAt_zero, if_pos rfl]
  · show (if (0 : Int) < 1000 - (p : Int) then 1000 - (p : Int) else 0) = _
    rw [if_pos (by omega)]
def pfs (ms : Nat → Nat) (k : Nat) : List Int := (List.range k).map fun j => (pf ms j : Int)
def mss (ms : Nat → Nat) (k : Nat) : List Int := (List.range k).map fun j => (ms j : Int)
theorem pfs_succ (ms : Nat → Nat) (k : Nat) : pfs ms (k + 1) = pfs ms k ++ [(pf ms k : Int)] := by unfold pfs; rw [List.range_succ, List.map_append]; rfl
theorem mss_succ (ms : Nat → Nat) (k : Nat) : mss ms (k + 1) = mss ms k ++ [(ms k : Int)] := by unfold mss; rw [List.range_succ, List.map_append]; rfl
theorem pfs_len (ms : Nat → Nat) (k : Nat) : (pfs ms k).length = k := by simp [pfs]
theorem mss_len (ms : Nat → Nat) (k : Nat) : (mss ms k).length = k := by simp [mss]
theorem pfs_at {ms : Nat → Nat} {j k : Nat} (h : j < k) : (pfs ms k).getD j 0 = (pf ms j : Int) := by unfold pfs; rw [List.getD_eq_getElem?_getD, List.getElem?_map, List.getElem?_range h]; rfl
theorem mss_at {ms : Nat → Nat} {j k : Nat} (h : j < k) : (mss ms k).getD j 0 = (ms j : Int) := by unfold mss; rw [List.getD_eq_getElem?_getD, List.getElem?_map, List.getElem?_range h]; rfl
/-! ### the walk -/
set_option maxRecDepth 100000 in
set_option maxHeartbeats 4000000 in
theorem best_core (a : Option Addr) (len cap : Nat) (z : Nat → Int) (n : Int) (w : World) (hl : len ≤ 9223372036854775807) (n1 : -9223372036854775808 ≤ n) (n2 : n ≤ 9223372036854775807)
    (hn : ∀ i, i < len → ∃ b off, a = some ⟨b, off, none⟩ ∧ b < w.heap.size ∧ w.cell? ⟨b, off + i, none⟩ = some (.int .i64 (z i)) ∧ -9223372036854775808 ≤ z i ∧ z i ≤ 9223372036854775807)
    (ms : Nat → Nat) (hms : ∀ i, 1 + z i % 12 = (ms i : Int)) (hm1 : ∀ i, 1 ≤ ms i) (hm2 : ∀ i, ms i ≤ 12) (M : Nat) (hM : 1 + n % 13 = (M : Int)) (hM1 : 1 ≤ M) (hM2 : M ≤ 13) :
    Calls Try.prog 5 #[.slice a len cap, .int .i64 n] w fun e w' => e = .returned (.bool true) ∧ Ext w w' := by
  have HN := Lib.hid hn
  have HMS := Lib.hid hms
  have HM1 := Lib.hid hm1
  have HM2 := Lib.hid hm2
  have HM := Lib.hid hM
  obtain ⟨i0, hi0, hz0, hz1, hz2⟩ := info_parts infoI
  clear hn hms hm1 hm2 hM
  go_enter Try.func5, Try.ntmps5
  go_wp2_with fail
  refine (new_ 1000 1000 w rfl (by omega)).mono ?_
  rintro e w1 ⟨rfl, f1, x1⟩
  have f1 : Fr w1 w.heap.size w.heap.size (lastL (pf ms 0)) 1000 := f1
  generalize hgg : w.heap.size = g at *
  have HG := Lib.hid hgg
  clear hgg
  go_wp2_with fail
  go_loopw [6, 7, 8] (fun av sv i wr => ∃ k : Nat, k ≤ len ∧ k ≤ 30 ∧ i = .int .i64 k ∧ IntS wr g av (pfs ms k) ∧ IntS wr g sv (mss ms k) ∧ Apart av sv ∧ Fr wr g g (lastL (pf ms k)) 1000 ∧ Ext w wr) (fun _ _ i _ => len - (intOf i).toNat)
  case atStart => exact ⟨0, Nat.zero_le _, Nat.zero_le _, rfl, IntS.nil _ _, IntS.nil _ _, apart_nil _, f1, x1⟩
  case round =>
    obtain ⟨k, hk, hk30, rfl, ia, is, ap, fr, hx⟩ := hrel
    have hpk0 := pf_le HM2.out k
    obtain ⟨A1, c1, rfl, ha1, ha2⟩ := ia.slice
    obtain ⟨A2, c2, rfl, hb1, hb2⟩ := is.slice
    rw [pfs_len] at ha1 ia ap ⊢
    rw [mss_len] at hb1 is ap ⊢
    unfold maxLen at ha2 hb2
    by_cases hlt : k < len ∧ k < 30
    · obtain ⟨hlt, hlt30⟩ := hlt
      obtain ⟨b, off, rfl, hb, hc, z1, z2⟩ := HN.out k hlt
      have cv : wr.cell? ⟨b, off + k, none⟩ = some (.int .i64 (z k)) := (hx.below.cell (p := ⟨b, off + k, none⟩) (by rw [HG.out]; exact hb)).trans hc
      have hbw : b < wr.heap.size := by have := hx.below.size; have := HG.out; omega
      have d1 : decide ((k : Int) < (len : Int)) = true := by simp; omega
      have d1' : decide (k < len) = true := by simp; omega
      have d2 : decide ((k : Int) < 30) = true := by simp; omega
      have kl : (k : Int) < (len : Int) := by omega
      obtain ⟨t1, t2, t3⟩ := last_take (pf ms k) (ms k) (by have := HM2.out k; omega) (HM1.out k)
      obtain ⟨s1, s2, s3⟩ := last_take (pf ms k + ms k) 1 (by have := HM2.out k; omega) (by omega)
      have MK := Lib.hid (HMS.out k)
      have mk1 := HM1.out k
      have mk2 := HM2.out k
      have T1 := Lib.hid t1
      have T2 := Lib.hid t2
      have T3 := Lib.hid t3
      have S1 := Lib.hid s1
      have S2 := Lib.hid s2
      have IA := Lib.hid ia
      have IS := Lib.hid is
      clear hc t1 t2 t3 s1 s2 s3 ia is
      go_wp2_with (go_at_call 12; refine (place _ _ _ (by omega) (by omega) (by omega) (by omega)).mono ?_; rintro e w' ⟨rfl, rfl⟩)
      rw [MK.out]
      refine (take_yes fr (ms k) (by omega) (by omega) 0 T1.out).mono ?_
      rintro e w2 ⟨rfl, f2, k2⟩
      rw [T2.out] at f2
      rw [T3.out]
      have x2 := tk_ext k2 (Nat.le_refl _) (Nat.le_refl _) hx HG.out
      have IA2 := Lib.hid (IA.out.tk fr k2)
      have IS2 := Lib.hid (IS.out.tk fr k2)
      clear IA IS k2 hx cv
      go_wp2_with fail
      refine (take_yes f2 1 (by omega) (by omega) 0 S1.out).mono ?_
      rintro e w3 ⟨rfl, f3, k3⟩
      rw [show ((1 : Nat) : Int) = 1 from rfl] at S2
      rw [S2.out] at f3
      have x3 := tk_ext k3 (Nat.le_refl _) (Nat.le_refl _) x2 HG.out
      have IA3 := Lib.hid (IA2.out.tk f2 k3)
      have IS3 := Lib.hid (IS2.out.tk f2 k3)
      clear IA2 IS2 k3 x2 f2
      have gs : g ≤ w3.heap.size := by have := x3.below.size; have := HG.out; omega
      rw [show pf ms k + ms k + 1 = pf ms (k + 1) from rfl] at f3
      generalize nth (lastL (pf ms k + ms k)) 0 = dd at *
      generalize hpk : (pf ms k : Int) = pk at *
      have HPK := Lib.hid hpk
      clear hpk
      have mk3 : ((ms k : Nat) : Int) ≤ 12 := by omega
      go_wp2_with (at_builtin; refine wpList_append_int rfl (.tmp 59) (.tmp 61) rfl g _ (pfs ms k) rfl ?c1 pk w3.heap.size rfl (Blk.new _ _ _) ?c2 ?c3 ?_)
      case c1 => exact IA3.out.ext ((Ext.refl _).alloc _)
      case c2 => rw [pfs_len]; omega
      case c3 => simp; omega
      intro v4 w4 ia4 k4 h4
      have is4 := (IS3.out.ext ((Ext.refl _).alloc _)).ki k4 ap
      have ap4 := apart_app IS3.out ap h4 (Nat.le_succ _)
      have x4 := ki_ext (x3.alloc _) (IA3.out.ext ((Ext.refl _).alloc _)) (by rw [HG.out]; exact Nat.le_refl _) k4
      have f4 := (f3.ext ((Ext.refl _).alloc _)).ki (IA3.out.ext ((Ext.refl _).alloc _)) k4
      have gs4 : g ≤ w4.heap.size := by have := x4.below.size; have := HG.out; omega
      clear IA3 IS3 k4 h4 x3 f3
      go_wp2_with (at_builtin; refine wpList_append_int rfl (.tmp 63) (.tmp 65) rfl g _ (mss ms k) rfl ?c1 (ms k) w4.heap.size rfl (Blk.new _ _ _) ?c2 ?c3 ?_)
      case c1 => exact is4.ext ((Ext.refl _).alloc _)
      case c2 => rw [mss_len]; omega
      case c3 => simp; omega
      intro v5 w5 is5 k5 h5
      have ia5 := (ia4.ext ((Ext.refl _).alloc _)).ki k5 ap4.symm
      have ap5 := (apart_app ia4 ap4.symm h5 (Nat.le_succ _)).symm
      have x5 := ki_ext (x4.alloc _) (is4.ext ((Ext.refl _).alloc _)) (by rw [HG.out]; exact Nat.le_refl _) k5
      have f5 := (f4.ext ((Ext.refl _).alloc _)).ki (is4.ext ((Ext.refl _).alloc _)) k5
      rw [← HPK.out, ← pfs_succ] at ia5
      rw [← mss_succ] at is5
      clear ia4 is4 k5 h5 x4 f4 ap4
      go_wp2_with fail
      go_roundw
      case rel => exact ⟨k + 1, by omega, by omega, by go_num, ia5, is5, ap5, f5, x5⟩
      case measure => simp [intOf]; omega
    · have ways : (decide ((k : Int) < (len : Int)) = true ∧ decide (k < len) = true ∧ decide ((k : Int) < 30) = false) ∨ (decide ((k : Int) < (len : Int)) = false ∧ decide (k < len) = false) := by
        by_cases hl1 : k < len
        · exact .inl ⟨by simp; omega, by simp; omega, by simp; omega⟩
        · exact .inr ⟨by simp; omega, by simp; omega⟩
      clear hlt
      obtain ⟨l1, l2, l3⟩ := last_all (pf ms k) (by omega)
      have L1 := Lib.hid l1
      have L2 := Lib.hid l2
      have lg := longest_ fr
      rw [l3] at lg
      have LG := Lib.hid lg
      have pb : (pf ms k : Int) < 1000 := by omega
      clear l1 l2 l3 lg
      generalize hpk : 1000 - (pf ms k : Int) = left at *
      have HPK := Lib.hid hpk
      have lf1 : 1 ≤ left := by omega
      have lf2 : left ≤ 1000 := by omega
      have lf3 : decide (0 < left) = true := by simp; omega
      clear hpk
      rcases ways with ⟨q1, q2, q3⟩ | ⟨q1, q2⟩
      all_goals
        go_wp2_with fail
        refine LG.out.mono ?_
        rintro e w2 ⟨rfl, x2⟩
        go_wp2_with fail
        refine (take_yes (fr.ext x2) left lf1 (by omega) 0 L1.out).mono ?_
        rintro e w3 ⟨rfl, f3, k3⟩
        rw [L2.out] at f3
        have x3 := tk_ext k3 (Nat.le_refl _) (Nat.le_refl _) (hx.trans x2) HG.out
        have ia3 := (ia.ext x2).tk (fr.ext x2) k3
        have is3 := (is.ext x2).tk (fr.ext x2) k3
        clear k3 x2 LG
        go_wp2_with fail
        go_loopw [17] (fun i wq => ∃ j : Nat, j ≤ k ∧ i = .int .i64 j ∧ IntS wq g (.slice A1 k c1) (pfs ms k) ∧ IntS wq g (.slice A2 k c2) (mss ms k) ∧ Fr wq g g (holes ms j) 1000 ∧ Ext w wq) (fun i _ => k - (intOf i).toNat)
        case atStart => exact ⟨0, Nat.zero_le _, rfl, ia3, is3, f3, x3⟩
        case round =>
          obtain ⟨j, hj, rfl, iaq, isq, fq, xq⟩ := hrel
          by_cases hjk : j < k
          · obtain ⟨g1, rfl, gb1, gl1, cc1⟩ := iaq.at_ j (by rw [pfs_len]; exact hjk)
            obtain ⟨g2, rfl, gb2, gl2, cc2⟩ := isq.at_ j (by rw [mss_len]; exact hjk)
            rw [pfs_at hjk] at cc1
            rw [mss_at hjk] at cc2
            have GO := Lib.hid (holes_ok HM1.out HM2.out j (by omega))
            have gs : g ≤ wr.heap.size := by have := xq.below.size; have := HG.out; omega
            have jk : (j : Int) < (k : Int) := by omega
            go_wp2_with fail
            go_still_tail 9, (by kernel_rfl)
            go_wp2_with fail
            refine (give (fq.ext ((Ext.refl _).drew)) gs _ _ GO.out).mono ?_
            rintro e w4 ⟨rfl, ⟨L4, f4, h4⟩, k4⟩
            rw [holes_given HM1.out j f4.can h4] at f4
            have x4 := tk_ext k4 (Nat.le_refl _) (Nat.le_refl _) xq.drew HG.out
            have ia4 := (iaq.ext ((Ext.refl _).drew)).tk (fq.ext ((Ext.refl _).drew)) k4
            have is4 := (isq.ext ((Ext.refl _).drew)).tk (fq.ext ((Ext.refl _).drew)) k4
            clear k4 h4
            go_wp2_with fail
            go_roundw
            case rel => exact ⟨j + 1, by omega, by go_num, ia4, is4, f4, x4⟩
            case measure => simp [intOf]; omega
          · obtain rfl : j = k := by omega
            go_wp2_with (go_at_call 12; refine (place _ _ _ (by omega) (by omega) (by omega) (by omega)).mono ?_; rintro e w' ⟨rfl, rfl⟩)
            rw [HM.out]
            obtain ⟨wo, rfl⟩ : ∃ wo : World, wo = wr := ⟨_, rfl⟩
            go_loopw [19, 20] (fun b i wp => ∃ m : Nat, m ≤ j ∧ i = .int .i64 m ∧ b = .int .i64 (bI (bst (holes ms j) M m)) ∧ Ext wo wp) (fun _ i _ => j - (intOf i).toNat)
            case atStart => exact ⟨0, Nat.zero_le _, rfl, rfl, Ext.refl _⟩
            case round =>
              obtain ⟨m, hm, rfl, rfl, hp⟩ := hrel
              have isp := isq.ext hp
              by_cases hmj : m < j
              · obtain ⟨g2, rfl, gb2, gl2, cc2⟩ := isp.at_ m (by rw [mss_len]; exact hmj)
                rw [mss_at hmj] at cc2
                have hnm := holes_nth (ms := ms) hmj
                have mjI : (m : Int) < (j : Int) := by omega
                have B0 : Hid (bst (holes ms j) M (m + 1) = match bst (holes ms j) M m with | none => if (M : Int) ≤ (nth (holes ms j) m).2 then some m else none | some b => if (M : Int) ≤ (nth (holes ms j) m).2 ∧ (nth (holes ms j) m).2 < (nth (holes ms j) b).2 then some m else some b) := rfl
                rw [hnm] at B0
                simp only at B0
                have mb1 := HM2.out m
                by_cases h2 : (M : Int) ≤ (ms m : Int)
                · have d2 : decide ((M : Int) ≤ (ms m : Int)) = true := decide_eq_true h2
                  have d2' : decide (M ≤ ms m) = true := decide_eq_true (by omega)
                  cases hb : bst (holes ms j) M m with
                  | none =>
                    have B : Hid (bst (holes ms j) M (m + 1) = some m) := by rw [B0.out, hb]; exact Lib.hid (if_pos h2)
                    clear hb h2 B0 hnm
                    generalize ms m = x at *
                    unfold bI
                    go_wp2
                    go_quiet (fail)
                    go_wp2
                    go_roundw
                    case rel => exact ⟨m + 1, by omega, by go_num, by rw [B.out], hp.drewN _⟩
                    case measure => simp [intOf]; omega
                  | some b =>
                    have hbk := bst_lt _ _ _ b hb
                    have hnb := holes_nth (ms := ms) (show b < j by omega)
                    have bm := HM2.out b
                    obtain ⟨g3, hg3, _, gl3, cc3⟩ := isp.at_ b (by rw [mss_len]; omega)
                    obtain rfl : g2 = g3 := by injection hg3 with hg3; injection hg3
                    rw [mss_at (show b < j by omega)] at cc3
                    have bjI : (b : Int) < (j : Int) := by omega
                    rw [hb] at B0
                    simp only at B0
                    rw [hnb] at B0
                    simp only at B0
                    by_cases h3 : (ms m : Int) < (ms b : Int)
                    · have B : Hid (bst (holes ms j) M (m + 1) = some m) := by rw [B0.out]; exact Lib.hid (if_pos ⟨h2, h3⟩)
                      have d3 : decide ((ms m : Int) < (ms b : Int)) = true := decide_eq_true h3
                      have d3' : decide (ms m < ms b) = true := decide_eq_true (by omega)
                      clear hb h2 h3 B0 hnm hnb hg3
                      generalize ms m = x at *
                      generalize ms b = y at *
                      unfold bI
                      go_wp2
                      go_quiet (fail)
                      go_wp2
                      go_roundw
                      case rel => exact ⟨m + 1, by omega, by go_num, by rw [B.out], hp.drewN _⟩
                      case measure => simp [intOf]; omega
                    · have B : Hid (bst (holes ms j) M (m + 1) = some b) := by rw [B0.out]; exact Lib.hid (if_neg (fun hh => h3 hh.2))
                      have d3 : decide ((ms m : Int) < (ms b : Int)) = false := decide_eq_false h3
                      have d3' : decide (ms m < ms b) = false := decide_eq_false (by omega)
                      clear hb h2 h3 B0 hnm hnb hg3
                      generalize ms m = x at *
                      generalize ms b = y at *
                      unfold bI
                      go_wp2
                      go_quiet (fail)
                      go_wp2
                      go_roundw
                      case rel => exact ⟨m + 1, by omega, by go_num, by rw [B.out], hp.drewN _⟩
                      case measure => simp [intOf]; omega
                · have d2 : decide ((M : Int) ≤ (ms m : Int)) = false := decide_eq_false h2
                  have d2' : decide (M ≤ ms m) = false := decide_eq_false (by omega)
                  have B : Hid (bst (holes ms j) M (m + 1) = bst (holes ms j) M m) := by
                    rw [B0.out]
                    cases hb : bst (holes ms j) M m with
                    | none => exact Lib.hid (if_neg h2)
                    | some b => exact Lib.hid (if_neg (fun hh => h2 hh.1))
                  clear h2 B0 hnm
                  generalize ms m = x at *
                  generalize bst (holes ms j) M m = bb at *
                  go_wp2
                  go_quiet (fail)
                  go_wp2
                  go_roundw
                  case rel => exact ⟨m + 1, by omega, by go_num, by rw [B.out], hp.drewN _⟩
                  case measure => simp [intOf]; omega
              · obtain rfl : m = j := by omega
                have fp := fq.ext hp
                have hln := holes_len (ms := ms) m
                cases hb : bst (holes ms m) M m with
                | none =>
                  have HB : Hid (bst (holes ms m) M (holes ms m).length = none) := by rw [hln]; exact hb
                  clear hb hln
                  unfold bI
                  go_wp2_with fail
                  refine (take_no fp M (by omega) (by omega) HB.out).mono ?_
                  rintro e w5 ⟨rfl, x5⟩
                  go_wp2_with fail
                  refine (awake4 _).mono ?_
                  rintro e w6 ⟨rfl, x6⟩
                  go_wp2_with fail
                  go_ret
                  exact ⟨rfl, ((xq.trans hp).trans x5).trans x6⟩
                | some b =>
                  have HB : Hid (bst (holes ms m) M (holes ms m).length = some b) := by rw [hln]; exact hb
                  have hbk := bst_lt _ _ _ b hb
                  have HNB := Lib.hid (holes_nth (ms := ms) hbk)
                  have pb2 := pf_le HM2.out b
                  clear hb hln
                  unfold bI
                  go_wp2_with fail
                  refine (take_yes fp M (by omega) (by omega) b HB.out).mono ?_
                  rintro e w5 ⟨rfl, f5, k5⟩
                  rw [HNB.out]
                  obtain ⟨g3, hg3, _, gl3, cc3⟩ := ((iaq.ext hp).tk fp k5).at_ b (by rw [pfs_len]; omega)
                  rw [pfs_at hbk] at cc3
                  subst hg3
                  have x5 := tk_ext k5 (Nat.le_refl _) (Nat.le_refl _) (xq.trans hp) HG.out
                  have bjI : (b : Int) < (m : Int) := by omega
                  clear k5 f5
                  go_wp2_with fail
                  refine (awake4 _).mono ?_
                  rintro e w6 ⟨rfl, x6⟩
                  go_wp2_with fail
                  go_ret
                  exact ⟨rfl, x5.trans x6⟩
theorem freeBest {H : Type} {enc : TypeId × Value → H} {r : Reach} {u0 : Nat} {d0 : DataW H} {p0 : List MemPlace} (v0 : Value) (a1 : Int) (w : World)
    (hv0 : Value.okWide Try.prog w r u0 22 v0) (h0 : DataW.Trod enc Try.prog w 0 (fun _ => true) true 22 v0 d0 p0) (w1 : (Lit.int .i64 a1).wf = true) :
    Calls Try.prog 5 #[v0, .int .i64 a1] w fun e w' => e = .returned (.bool true) ∧ Below w.heap.size w w' := by
  obtain ⟨a, len, cap, z, rfl, hl, hn⟩ := Shell.open_ints Try.underlying22 Try.underlying3 (by kernel_rfl) hv0 h0
  unfold maxLen at hl
  obtain ⟨n1, n2⟩ := Shell.bounds64 w1
  exact (best_core a len cap z a1 w (by omega) n1 n2 hn (fun i => (1 + z i % 12).toNat) (fun i => by show _ = ((1 + z i % 12).toNat : Int); omega) (fun i => by show 1 ≤ (1 + z i % 12).toNat; omega) (fun i => by show (1 + z i % 12).toNat ≤ 12; omega)
    (1 + a1 % 13).toNat (by omega) (by omega) (by omega)).mono fun e w' h => ⟨h.1, h.2.below⟩
end Go.Proofs.Ytiffoapjhkapfaa.Free
