/-
  The contract of heap.Make (chapter 5): what may be made.
-/
import Derived.Test.YtjpalcejmloocaaHqMake
namespace Go.Proofs.Ytjpalcejmloocaa.Heap
open Go.RowKit Go.Proofs.Ytjpalcejmloocaa.Plain Go.Proofs.Ytjpalcejmloocaa.Free
set_option linter.unusedVariables false
def MakePost (w : World) (h base : Nat) (o : O3) (S : List Int) (L : List Run) (Bg : List Bool) (W : Nat) (fmt odd cls hash x : Int) (e : Ending) (w' : World) : Prop :=
  (bst L (3 + W) L.length = none → e = .returned (.tuple #[.int .i64 0, .bool false]) ∧ Ext w w') ∧
  (∀ b, bst L (3 + W) L.length = some b → ∃ k : Nat, (nth L b).1 = (k : Int) ∧ e = .returned (.tuple #[.int .i64 ((k : Int) + 1), .bool true]) ∧ Heap w' h base o (made S k W fmt odd cls hash x) (takeAt L b (3 + W)) (Bg.set (k + 1) true) ∧ HKp base o w w')
theorem put_i {w : World} {g b : Nat} {L : List Int} (h : Store.Sto w g b L) (i : Int) (k : Nat) (hi : i = (k : Int)) (hk : k < L.length) (v : Int) :
    Calls Try.prog 29 #[.pointer (some ⟨g, 0, none⟩), .int .i64 i, .int .u32 v] w fun e w' => e = .returned (.bool true) ∧ Store.Sto w' g b (L.set k v) ∧ Keep (· = b) w w' := by
  subst hi; exact Store.put_y h k hk v
section
variable {w : World} {h base : Nat} {o : O3} {S : List Int} {L : List Run} {Bg : List Bool}
set_option maxRecDepth 100000 in
set_option maxHeartbeats 4000000 in
theorem make_bytes (H : Heap w h base o S L Bg) (n : Nat) (cls hash : Int) (W : Nat) (hn : n ≤ 200) (hW : W = (n + 3) / 4) (c1 : 0 ≤ cls) (c2 : cls ≤ 65536) (a1 : 0 ≤ hash) (a2 : hash ≤ 3000) :
    Calls Try.prog 8 #[.pointer (some ⟨h, 0, none⟩), .int .i64 3, .int .i64 n, .int .i64 cls, .int .i64 hash] w (MakePost w h base o S L Bg W 3 ((W : Int) * 4 - n) cls hash 0) := by
  obtain ⟨s, sb, f, bb, v, rfl, H⟩ := H
  obtain ⟨r1, r2, r3⟩ := H.blk.rules
  have HH := Lib.hid H
  have hsl := H.sto.le
  clear H
  have wl : W ≤ 50 := by omega
  have e1 : ((n : Int) + 4 - 1) / 4 = (W : Int) := by omega
  have dn : decide (200 < (n : Int)) = false := by simp; omega
  have dc1 : decide (cls < 0) = false := by simp; omega
  have dc2 : decide (65536 < cls) = false := by simp; omega
  have dh1 : decide (hash < 0) = false := by simp; omega
  have dh2 : decide (3000 < hash) = false := by simp; omega
  have HW := Lib.hid hW
  clear hW
  go_enter Try.func8, Try.ntmps8
  go_wp2_with fail
  refine (Free.take HH.out.fre (by omega) (by omega)).mono ?_
  rintro e w1 hpost
  cases hb : bst L (3 + (W : Int)) L.length with
  | none =>
    obtain ⟨rfl, x1⟩ := hpost.1 hb
    have HN := Lib.hid hb
    clear hb hpost
    go_wp2_with fail
    go_ret2
    exact ⟨fun _ => ⟨rfl, x1⟩, fun b hb => by rw [HN.out] at hb; cases hb⟩
  | some b =>
    obtain ⟨rfl, ⟨v', f1⟩, k1⟩ := hpost.2 b hb
    have HN := Lib.hid hb
    have hbl := bst_lt L _ _ _ hb
    have hge := bst_ge L _ _ _ hb
    obtain ⟨q1, q2, q3⟩ := HH.out.fre.bd _ (nth_mem L b hbl)
    have q4 := HH.out.up _ (nth_mem L b hbl)
    obtain ⟨k, hk⟩ := Int.eq_ofNat_of_zero_le q1
    obtain ⟨H1, K1⟩ := HH.out.took f1 k1 (take_up HH.out.up hbl)
    have kb : k + 3 + W ≤ S.length := by omega
    have HK := Lib.hid hk
    rw [hk]
    clear hb hpost f1 k1 q1 q2 q3 q4 hge hk r1 r2 r3
    obtain ⟨r1, r2, r3⟩ := H1.blk.rules
    go_wp2_with (go_at_call 28; refine (Word.int _ _ (by omega) (by omega)).mono ?_; rintro e w' ⟨rfl, rfl⟩)
    have cs1 : w1.cell? ⟨h, 0, none⟩ = some (.pointer (some ⟨s, 0, none⟩)) := r1 0
    go_region_held3 (fun w' => w'.cell? ⟨h, 0, none⟩ = some (.pointer (some ⟨s, 0, none⟩))) (first | exact cs1 | exact d1 | exact e1) (first | (go_at_call 30; refine (Header.put _ _ _ _ _ _ _).mono ?_; rintro e wy1 ⟨rfl, xy1⟩; have xx1 := (Ext.refl w1).drew.trans xy1; have d1 := (xx1.below.cell (p := ⟨h, 0, none⟩) r3).trans cs1) | (go_at_call 29; refine (put_i (H1.sto.ext xx1) _ k (by first | rfl | omega) (by first | omega | (simp; omega)) _).mono ?_; rintro e wz1 ⟨rfl, s1, k1⟩; have e1 := (World.cell?_of_block (k1.block h (Nat.lt_of_lt_of_le r3 xx1.below.size) (H1.blk.ne H1.sto.row (by decide)))).trans d1))
    obtain ⟨H2, K2'⟩ := (H1.ext xx1).put s1 k1 (by simp) (wd_set H1.wd (by have := putN_bd (W : Int) 3 ((W : Int) * 4 - n) 0 false true; omega))
    have K2 := (K1.ext xx1).trans K2'
    clear cs1 d1 e1 s1 k1 xx1 K2' K1 H1 r1 r2 r3
    obtain ⟨r1, r2, r3⟩ := H2.blk.rules
    go_wp2_with fail
    have cs2 : wz1.cell? ⟨h, 0, none⟩ = some (.pointer (some ⟨s, 0, none⟩)) := r1 0
    go_region_held3 (fun w' => w'.cell? ⟨h, 0, none⟩ = some (.pointer (some ⟨s, 0, none⟩))) (first | exact cs2 | exact d2 | exact e2) (first | (go_at_call 31; refine (Word.ref _ _ (by omega) (by omega)).mono ?_; rintro e wy2 ⟨rfl, rfl⟩; have xx2 := (Ext.refl wz1).drew; have d2 := cs2) | (go_at_call 29; refine (put_i (H2.sto.ext xx2) _ (k + 1) (by first | omega | (rw [IntWalk.i64_in _ (by omega)]; omega)) (by first | omega | (simp; omega)) _).mono ?_; rintro e wz2 ⟨rfl, s2, k2⟩; have e2 := (World.cell?_of_block (k2.block h (Nat.lt_of_lt_of_le r3 xx2.below.size) (H2.blk.ne H2.sto.row (by decide)))).trans d2))
    obtain ⟨H3, K3'⟩ := (H2.ext xx2).put s2 k2 (by simp) (wd_set H2.wd (by have := refW_bd cls; omega))
    have K3 := (K2.ext xx2).trans K3'
    clear cs2 d2 e2 s2 k2 xx2 K3' K2 H2 r1 r2 r3
    obtain ⟨r1, r2, r3⟩ := H3.blk.rules
    go_wp2_with fail
    have cs3 : wz2.cell? ⟨h, 0, none⟩ = some (.pointer (some ⟨s, 0, none⟩)) := r1 0
    go_region_held3 (fun w' => w'.cell? ⟨h, 0, none⟩ = some (.pointer (some ⟨s, 0, none⟩))) (first | exact cs3 | exact d3 | exact e3) (first | (go_at_call 28; refine (Word.int _ _ (by omega) (by omega)).mono ?_; rintro e wy3 ⟨rfl, rfl⟩; have xx3 := (Ext.refl wz2).drew; have d3 := cs3) | (go_at_call 29; refine (put_i (H3.sto.ext xx3) _ (k + 2) (by first | omega | (rw [IntWalk.i64_in _ (by omega)]; omega)) (by first | omega | (simp; omega)) _).mono ?_; rintro e wz3 ⟨rfl, s3, k3⟩; have e3 := (World.cell?_of_block (k3.block h (Nat.lt_of_lt_of_le r3 xx3.below.size) (H3.blk.ne H3.sto.row (by decide)))).trans d3))
    obtain ⟨H4, K4'⟩ := (H3.ext xx3).put s3 k3 (by simp) (wd_set H3.wd (by have := intW_bd hash; omega))
    have K4 := (K3.ext xx3).trans K4'
    clear cs3 d3 e3 s3 k3 xx3 K4' K3 H3 r1 r2 r3
    obtain ⟨r1, r2, r3⟩ := H4.blk.rules
    go_wp2_with fail
    have S3 : Hid (made S k W 3 ((W : Int) * 4 - n) cls hash 0 = fill (((S.set k (putN W 3 ((W : Int) * 4 - n) 0 false true)).set (k + 1) (refW cls)).set (k + 2) (intW hash)) (k + 3) 0 W) := rfl
    generalize hs3 : ((S.set k (putN W 3 ((W : Int) * 4 - n) 0 false true)).set (k + 1) (refW cls)).set (k + 2) (intW hash) = T at *
    have TL : T.length = S.length := by rw [← hs3]; simp
    clear hs3 r1 r2 r3
    go_loopw [105] (fun i wr => ∃ j : Nat, j ≤ W ∧ i = .int .i64 j ∧ Hp wr h s sb f bb base v' (fill T (k + 3) 0 j) (takeAt L b (3 + W)) Bg ∧ HKp base ⟨sb, f, bb⟩ w wr) (fun i _ => W - (intOf i).toNat)
    case atStart => exact ⟨0, Nat.zero_le _, rfl, H4, K4⟩
    case round =>
      obtain ⟨j, hj, rfl, Hj, Kj⟩ := hrel
      obtain ⟨r1, r2, r3⟩ := Hj.blk.rules
      by_cases hlt : j < W
      · go_wp2_with fail
        refine (put_i Hj.sto _ (k + 3 + j) (by omega) (by rw [fill_len]; omega) _).mono ?_
        rintro e wj ⟨rfl, sj, kj⟩
        obtain ⟨Hn, Kn⟩ := Hj.put sj kj (by simp) (wd_set Hj.wd (by omega))
        go_wp2_with fail
        go_roundw
        case rel => exact ⟨j + 1, by omega, by go_num, Hn, Kj.trans Kn⟩
        case measure => simp [intOf]; omega
      · obtain rfl : j = W := by omega
        have hbl2 := Hj.len
        rw [fill_len] at hbl2
        have cb : wr.cell? ⟨bb, k + 1, none⟩ = some (.bool (Bg.getD (k + 1) false)) := (Hj.bg.cell _).trans (bg_at Bg _ (by omega))
        have fb := Hj.bg.frozen (k + 1)
        have bl : (k : Int) + 1 < (Bg.length : Int) := by omega
        obtain ⟨Hm, Km⟩ := Hj.mark (k + 1) true
        generalize Bg.getD (k + 1) false = ob at cb
        have HM := Lib.hid Hm
        have KM := Lib.hid (Kj.trans Km)
        clear Hm Km hbl2
        go_wp2
        go_ret2
        refine ⟨fun hno => (by rw [HN.out] at hno; cases hno), fun b' hb' => ?_⟩
        obtain rfl : b = b' := by rw [HN.out] at hb'; injection hb'
        exact ⟨k, HK.out, rfl, ⟨s, sb, f, bb, v', rfl, by rw [S3.out]; exact HM.out⟩, KM.out⟩
set_option maxRecDepth 100000 in
set_option maxHeartbeats 4000000 in
theorem make_plain (H : Heap w h base o S L Bg) (fmt : Int) (hf : fmt = 1 ∨ fmt = 2) (W : Nat) (cls hash : Int) (wl : W ≤ 60) (c1 : 0 ≤ cls) (c2 : cls ≤ 65536) (a1 : 0 ≤ hash) (a2 : hash ≤ 3000) :
    Calls Try.prog 8 #[.pointer (some ⟨h, 0, none⟩), .int .i64 fmt, .int .i64 W, .int .i64 cls, .int .i64 hash] w (MakePost w h base o S L Bg W fmt 0 cls hash (intW 0)) := by
  obtain ⟨s, sb, f, bb, v, rfl, H⟩ := H
  obtain ⟨r1, r2, r3⟩ := H.blk.rules
  have HH := Lib.hid H
  have hsl := H.sto.le
  clear H
  have df : (fmt == 3) = false := by rw [beq_eq_false_iff_ne]; omega
  have df1 : decide (fmt < 1) = false := by simp; omega
  have df2 : decide (3 < fmt) = false := by simp; omega
  have dn : decide (60 < (W : Int)) = false := by simp; omega
  have dc1 : decide (cls < 0) = false := by simp; omega
  have dc2 : decide (65536 < cls) = false := by simp; omega
  have dh1 : decide (hash < 0) = false := by simp; omega
  have dh2 : decide (3000 < hash) = false := by simp; omega
  clear hf
  have nvb := intW_bd 0
  go_enter Try.func8, Try.ntmps8
  go_wp2_with fail
  refine (Free.take HH.out.fre (by omega) (by omega)).mono ?_
  rintro e w1 hpost
  cases hb : bst L (3 + (W : Int)) L.length with
  | none =>
    obtain ⟨rfl, x1⟩ := hpost.1 hb
    have HN := Lib.hid hb
    clear hb hpost
    go_wp2_with fail
    go_ret2
    exact ⟨fun _ => ⟨rfl, x1⟩, fun b hb => by rw [HN.out] at hb; cases hb⟩
  | some b =>
    obtain ⟨rfl, ⟨v', f1⟩, k1⟩ := hpost.2 b hb
    have HN := Lib.hid hb
    have hbl := bst_lt L _ _ _ hb
    have hge := bst_ge L _ _ _ hb
    obtain ⟨q1, q2, q3⟩ := HH.out.fre.bd _ (nth_mem L b hbl)
    have q4 := HH.out.up _ (nth_mem L b hbl)
    obtain ⟨k, hk⟩ := Int.eq_ofNat_of_zero_le q1
    obtain ⟨H1, K1⟩ := HH.out.took f1 k1 (take_up HH.out.up hbl)
    have kb : k + 3 + W ≤ S.length := by omega
    have HK := Lib.hid hk
    rw [hk]
    clear hb hpost f1 k1 q1 q2 q3 q4 hge hk r1 r2 r3
    obtain ⟨r1, r2, r3⟩ := H1.blk.rules
    go_wp2_with (go_at_call 28; refine (Word.int _ _ (by omega) (by omega)).mono ?_; rintro e w' ⟨rfl, rfl⟩)
    have cs1 : w1.cell? ⟨h, 0, none⟩ = some (.pointer (some ⟨s, 0, none⟩)) := r1 0
    go_region_held3 (fun w' => w'.cell? ⟨h, 0, none⟩ = some (.pointer (some ⟨s, 0, none⟩))) (first | exact cs1 | exact d1 | exact e1) (first | (go_at_call 30; refine (Header.put _ _ _ _ _ _ _).mono ?_; rintro e wy1 ⟨rfl, xy1⟩; have xx1 := (Ext.refl w1).drew.trans xy1; have d1 := (xx1.below.cell (p := ⟨h, 0, none⟩) r3).trans cs1) | (go_at_call 29; refine (put_i (H1.sto.ext xx1) _ k (by first | rfl | omega) (by first | omega | (simp; omega)) _).mono ?_; rintro e wz1 ⟨rfl, s1, k1⟩; have e1 := (World.cell?_of_block (k1.block h (Nat.lt_of_lt_of_le r3 xx1.below.size) (H1.blk.ne H1.sto.row (by decide)))).trans d1))
    obtain ⟨H2, K2'⟩ := (H1.ext xx1).put s1 k1 (by simp) (wd_set H1.wd (by have := putN_bd (W : Int) fmt 0 0 false true; omega))
    have K2 := (K1.ext xx1).trans K2'
    clear cs1 d1 e1 s1 k1 xx1 K2' K1 H1 r1 r2 r3
    obtain ⟨r1, r2, r3⟩ := H2.blk.rules
    go_wp2_with fail
    have cs2 : wz1.cell? ⟨h, 0, none⟩ = some (.pointer (some ⟨s, 0, none⟩)) := r1 0
    go_region_held3 (fun w' => w'.cell? ⟨h, 0, none⟩ = some (.pointer (some ⟨s, 0, none⟩))) (first | exact cs2 | exact d2 | exact e2) (first | (go_at_call 31; refine (Word.ref _ _ (by omega) (by omega)).mono ?_; rintro e wy2 ⟨rfl, rfl⟩; have xx2 := (Ext.refl wz1).drew; have d2 := cs2) | (go_at_call 29; refine (put_i (H2.sto.ext xx2) _ (k + 1) (by first | omega | (rw [IntWalk.i64_in _ (by omega)]; omega)) (by first | omega | (simp; omega)) _).mono ?_; rintro e wz2 ⟨rfl, s2, k2⟩; have e2 := (World.cell?_of_block (k2.block h (Nat.lt_of_lt_of_le r3 xx2.below.size) (H2.blk.ne H2.sto.row (by decide)))).trans d2))
    obtain ⟨H3, K3'⟩ := (H2.ext xx2).put s2 k2 (by simp) (wd_set H2.wd (by have := refW_bd cls; omega))
    have K3 := (K2.ext xx2).trans K3'
    clear cs2 d2 e2 s2 k2 xx2 K3' K2 H2 r1 r2 r3
    obtain ⟨r1, r2, r3⟩ := H3.blk.rules
    go_wp2_with fail
    have cs3 : wz2.cell? ⟨h, 0, none⟩ = some (.pointer (some ⟨s, 0, none⟩)) := r1 0
    go_region_held3 (fun w' => w'.cell? ⟨h, 0, none⟩ = some (.pointer (some ⟨s, 0, none⟩))) (first | exact cs3 | exact d3 | exact e3) (first | (go_at_call 28; refine (Word.int _ _ (by omega) (by omega)).mono ?_; rintro e wy3 ⟨rfl, rfl⟩; have xx3 := (Ext.refl wz2).drew; have d3 := cs3) | (go_at_call 29; refine (put_i (H3.sto.ext xx3) _ (k + 2) (by first | omega | (rw [IntWalk.i64_in _ (by omega)]; omega)) (by first | omega | (simp; omega)) _).mono ?_; rintro e wz3 ⟨rfl, s3, k3⟩; have e3 := (World.cell?_of_block (k3.block h (Nat.lt_of_lt_of_le r3 xx3.below.size) (H3.blk.ne H3.sto.row (by decide)))).trans d3))
    obtain ⟨H4, K4'⟩ := (H3.ext xx3).put s3 k3 (by simp) (wd_set H3.wd (by have := intW_bd hash; omega))
    have K4 := (K3.ext xx3).trans K4'
    clear cs3 d3 e3 s3 k3 xx3 K4' K3 H3 r1 r2 r3
    obtain ⟨r1, r2, r3⟩ := H4.blk.rules
    go_wp2_with fail
    have S3 : Hid (made S k W fmt 0 cls hash (intW 0) = fill (((S.set k (putN W fmt 0 0 false true)).set (k + 1) (refW cls)).set (k + 2) (intW hash)) (k + 3) (intW 0) W) := rfl
    generalize hs3 : ((S.set k (putN W fmt 0 0 false true)).set (k + 1) (refW cls)).set (k + 2) (intW hash) = T at *
    have TL : T.length = S.length := by rw [← hs3]; simp
    clear hs3 r1 r2 r3
    go_loopw [105] (fun i wr => ∃ j : Nat, j ≤ W ∧ i = .int .i64 j ∧ Hp wr h s sb f bb base v' (fill T (k + 3) (intW 0) j) (takeAt L b (3 + W)) Bg ∧ HKp base ⟨sb, f, bb⟩ w wr) (fun i _ => W - (intOf i).toNat)
    case atStart => exact ⟨0, Nat.zero_le _, rfl, H4, K4⟩
    case round =>
      obtain ⟨j, hj, rfl, Hj, Kj⟩ := hrel
      obtain ⟨r1, r2, r3⟩ := Hj.blk.rules
      by_cases hlt : j < W
      · go_wp2_with fail
        refine (put_i Hj.sto _ (k + 3 + j) (by omega) (by rw [fill_len]; omega) _).mono ?_
        rintro e wj ⟨rfl, sj, kj⟩
        obtain ⟨Hn, Kn⟩ := Hj.put sj kj (by simp) (wd_set Hj.wd nvb)
        go_wp2_with fail
        go_roundw
        case rel => exact ⟨j + 1, by omega, by go_num, Hn, Kj.trans Kn⟩
        case measure => simp [intOf]; omega
      · obtain rfl : j = W := by omega
        have hbl2 := Hj.len
        rw [fill_len] at hbl2
        have cb : wr.cell? ⟨bb, k + 1, none⟩ = some (.bool (Bg.getD (k + 1) false)) := (Hj.bg.cell _).trans (bg_at Bg _ (by omega))
        have fb := Hj.bg.frozen (k + 1)
        have bl : (k : Int) + 1 < (Bg.length : Int) := by omega
        obtain ⟨Hm, Km⟩ := Hj.mark (k + 1) true
        generalize Bg.getD (k + 1) false = ob at cb
        have HM := Lib.hid Hm
        have KM := Lib.hid (Kj.trans Km)
        clear Hm Km hbl2
        go_wp2
        go_ret2
        refine ⟨fun hno => (by rw [HN.out] at hno; cases hno), fun b' hb' => ?_⟩
        obtain rfl : b = b' := by rw [HN.out] at hb'; injection hb'
        exact ⟨k, HK.out, rfl, ⟨s, sb, f, bb, v', rfl, by rw [S3.out]; exact HM.out⟩, KM.out⟩
end
end Go.Proofs.Ytjpalcejmloocaa.Heap
