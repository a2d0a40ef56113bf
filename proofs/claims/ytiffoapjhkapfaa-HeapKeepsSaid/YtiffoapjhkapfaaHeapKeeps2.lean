/-
  The walk of HeapKeeps (chapter 5): objects keep what they were given.
-/
import Derived.Test.YtiffoapjhkapfaaHeapKeeps
namespace Go.Proofs.Ytiffoapjhkapfaa.Heap
open Go.RowKit Go.Proofs.Ytiffoapjhkapfaa.Plain Go.Proofs.Ytiffoapjhkapfaa.Free
set_option linter.unusedVariables false
attribute [local go_sem ↓] Go.wp_at_zero Go.wp_at_succ

theorem Heap.up {w : World} {h base : Nat} {S : List Int} {L : List Run} {Bg : List Bool} (H : Heap w h base S L Bg) (hl : S.length = 600) : Upto 600 L := by
  obtain ⟨s, sb, f, bb, v, H⟩ := H
  intro r hr
  have := H.up r hr
  omega
theorem KK.mono {i j : Nat} {O : List Ob} {S : List Int} {L : List Run} {Bg : List Bool} (h : KK i O S L Bg) (hij : i ≤ j) : KK j O S L Bg :=
  ⟨h.len, h.blen, h.can, h.up, h.obj, h.words, h.apart, h.beg, fun x h1 h2 => h.tail x (by omega) h2⟩
def ats (O : List Ob) : List Int := O.map fun o => (o.k : Int) + 1
def hss (O : List Ob) : List Int := O.map fun o => (o.h : Int)
/-- all that is known between rounds -/
structure Rnd (w wr : World) (h B : Nat) (i : Nat) (O : List Ob) (S : List Int) (L : List Run) (Bg : List Bool) (u1 u2 : Value) : Prop where
  kk : KK i O S L Bg
  hp : Heap wr h B S L Bg
  i1 : IntS wr B u1 (ats O)
  i2 : IntS wr B u2 (hss O)
  ap : Apart u1 u2
  x : Ext w wr
  b : w.heap.size = B
  len : O.length ≤ i
theorem IntS.base {w : World} {b b' : Nat} {v : Value} {zs : List Int} (h : IntS w b v zs) (hb : b' ≤ b) : IntS w b' v zs := by
  refine ⟨h.own.1, ?_⟩
  rcases h.own.2 with h0 | ⟨g, cap, cur, e, h1, rest⟩
  · exact .inl h0
  · exact .inr ⟨g, cap, cur, e, by omega, rest⟩
section
variable {w wr : World} {h B i : Nat} {A B' : List Ob} {o : Ob} {S : List Int} {L : List Run} {Bg : List Bool} {u1 u2 : Value}
theorem Rnd.ok (R : Rnd w wr h B i (A ++ o :: B') S L Bg u1 u2) : ObOk S Bg o := R.kk.obj o (by simp)
theorem kk_hash {W : World} (k : KK i (A ++ o :: B') S L Bg) (H : Heap W h B S L Bg) : Calls Try.prog 28 #[.pointer (some ⟨h, 0, none⟩), .int .i64 ((o.k : Int) + 1)] W fun e w' => e = .returned (.int .i64 o.h) ∧ Ext W w' := by
  have := hash_ H ((o.k : Int) + 1)
  rw [hash_at (k.obj o (by simp))] at this
  exact this
theorem kk_has {W : World} (k : KK i (A ++ o :: B') S L Bg) (H : Heap W h B S L Bg) : Calls Try.prog 15 #[.pointer (some ⟨h, 0, none⟩), .int .i64 ((o.k : Int) + 1)] W fun e w' => e = .returned (.bool true) ∧ W = w' := by
  have := has H ((o.k : Int) + 1)
  rw [(k.obj o (by simp)).hd.has] at this
  exact this
theorem kk_size {W : World} (k : KK i (A ++ o :: B') S L Bg) (H : Heap W h B S L Bg) : Calls Try.prog 16 #[.pointer (some ⟨h, 0, none⟩), .int .i64 ((o.k : Int) + 1)] W fun e w' => e = .returned (.int .i64 o.n) ∧ Ext W w' := by
  have := size_ H ((o.k : Int) + 1)
  rw [(k.obj o (by simp)).hd.size] at this
  exact this
theorem kk_field {W : World} (k : KK i (A ++ o :: B') S L Bg) (H : Heap W h B S L Bg) (t : Nat) (ht : t < o.n) : Calls Try.prog 31 #[.pointer (some ⟨h, 0, none⟩), .int .i64 ((o.k : Int) + 1), .int .i64 (t : Int)] W fun e w' => e = .returned (.int .u32 (100 * (o.h : Int) + (t : Int))) ∧ Ext W w' := by
  have ok := k.obj o (by simp)
  have := ok.n8
  have := field_yes H ((o.k : Int) + 1) (t : Int) (ok.hd.in_ t ht) (by omega)
  rw [field_at ok t ht, show ((100 * o.h + t : Nat) : Int) = 100 * (o.h : Int) + (t : Int) from by omega] at this
  exact this
theorem rnd_hash (R : Rnd w wr h B i (A ++ o :: B') S L Bg u1 u2) (W : World) (x : Ext wr W) : Calls Try.prog 28 #[.pointer (some ⟨h, 0, none⟩), .int .i64 ((o.k : Int) + 1)] W fun e w' => e = .returned (.int .i64 o.h) ∧ Ext W w' := by
  have := hash_ (R.hp.ext x) ((o.k : Int) + 1)
  rw [hash_at R.ok] at this
  exact this
def Gone (h B i : Nat) (O : List Ob) (S : List Int) (Bg : List Bool) (w : World) (e : Ending) (w' : World) : Prop :=
  e = .returned (.bool true) ∧ (∃ L', Heap w' h B S L' Bg ∧ KK i O S L' Bg) ∧ HKp B w w'
theorem rnd_drop (R : Rnd w wr h B i (A ++ o :: B') S L Bg u1 u2) (W : World) (x : Ext wr W) : Calls Try.prog 29 #[.pointer (some ⟨h, 0, none⟩), .int .i64 ((o.k : Int) + 1)] W (Gone h B i (A ++ B') (S.set o.k 0) (Bg.set (o.k + 1) false) W) := by
  have ok := R.ok
  have hf := ok.hd.fit
  have h8 := ok.n8
  have hn : 3 + gotS (Store.getL S (o.k : Int)) = 3 + (o.n : Int) := by
    rw [getL_nat _ _ (by omega), ok.hd.word, put_s _ _ _ (by omega) (by omega)]
  have gk := R.kk.giveok
  rw [← R.kk.len] at gk
  refine (drop_yes (R.hp.ext x) ((o.k : Int) + 1) o.k (3 + (o.n : Int)) rfl ok.hd.has hn R.kk.can gk (by have := R.x.below.size; have := x.below.size; have := R.b; omega)).mono ?_
  rintro e w' ⟨rfl, ⟨L', h1, h2, h3⟩, k1⟩
  exact ⟨rfl, ⟨L', h1, R.kk.drop h2 (h1.up (by rw [List.length_set]; exact R.kk.len)) (fun y => h3 y)⟩, k1⟩
theorem kk_drop {W : World} (k : KK i (A ++ o :: B') S L Bg) (H : Heap W h B S L Bg) (hb : B ≤ W.heap.size) : Calls Try.prog 29 #[.pointer (some ⟨h, 0, none⟩), .int .i64 ((o.k : Int) + 1)] W (Gone h B i (A ++ B') (S.set o.k 0) (Bg.set (o.k + 1) false) W) := by
  have ok := k.obj o (by simp)
  have hf := ok.hd.fit
  have h8 := ok.n8
  have hn : 3 + gotS (Store.getL S (o.k : Int)) = 3 + (o.n : Int) := by
    rw [getL_nat _ _ (by omega), ok.hd.word, put_s _ _ _ (by omega) (by omega)]
  have gk := k.giveok
  rw [← k.len] at gk
  refine (drop_yes H ((o.k : Int) + 1) o.k (3 + (o.n : Int)) rfl ok.hd.has hn k.can gk hb).mono ?_
  rintro e w' ⟨rfl, ⟨L', h1, h2, h3⟩, k1⟩
  exact ⟨rfl, ⟨L', h1, k.drop h2 (h1.up (by rw [List.length_set]; exact k.len)) (fun y => h3 y)⟩, k1⟩
theorem gone_has {W : World} {L' : List Run} (H : Heap W h B (S.set o.k 0) L' (Bg.set (o.k + 1) false)) (hl : o.k + 1 < Bg.length) : Calls Try.prog 15 #[.pointer (some ⟨h, 0, none⟩), .int .i64 ((o.k : Int) + 1)] W fun e w' => e = .returned (.bool false) ∧ W = w' := by
  have := has H ((o.k : Int) + 1)
  rw [has_nat (by rw [List.length_set]; exact hl), bset_in _ _ _ hl] at this
  exact this
theorem ats_app : ats (A ++ o :: B') = ats A ++ ((o.k : Int) + 1) :: ats B' := by unfold ats; simp
theorem hss_app : hss (A ++ o :: B') = hss A ++ (o.h : Int) :: hss B' := by unfold hss; simp
theorem mid_get (X Y : List Int) (y : Int) (q : Nat) (hq : X.length = q) : (X ++ y :: Y).getD q 0 = y ∧ (X ++ y :: Y).take q = X ∧ (X ++ y :: Y).drop (q + 1) = Y := by
  subst hq
  refine ⟨by simp, by simp, ?_⟩
  rw [List.drop_append]; simp
/-- what the walk reads at place q -/
structure AtQ (wr : World) (B q n c1 c2 g1 g2 : Nat) (A : List Ob) (o : Ob) (B' : List Ob) : Prop where
  ia : IntS wr B (.slice (some ⟨g1, 0, none⟩) n c1) (ats A ++ ((o.k : Int) + 1) :: ats B')
  is : IntS wr B (.slice (some ⟨g2, 0, none⟩) n c2) (hss A ++ (o.h : Int) :: hss B')
  qe : A.length = q
  ne : n = q + 1 + B'.length
theorem AtQ.cells {wr : World} {B q n c1 c2 g1 g2 : Nat} {A B' : List Ob} {o : Ob} (h : AtQ wr B q n c1 c2 g1 g2 A o B') : wr.cell? ⟨g1, q, none⟩ = some (.int .i64 ((o.k : Int) + 1)) ∧ wr.cell? ⟨g2, q, none⟩ = some (.int .i64 (o.h : Int)) := by
  have la : (ats A).length = q := by unfold ats; rw [List.length_map]; exact h.qe
  have ls : (hss A).length = q := by unfold hss; rw [List.length_map]; exact h.qe
  obtain ⟨g, e, _, _, c⟩ := h.ia.at_ q (by simp; omega)
  obtain ⟨g', e', _, _, c'⟩ := h.is.at_ q (by simp; omega)
  injection e with e; injection e with e; subst e
  injection e' with e'; injection e' with e'; subst e'
  rw [(mid_get _ _ _ q la).1] at c
  rw [(mid_get _ _ _ q ls).1] at c'
  exact ⟨c, c'⟩
theorem AtQ.ext {wr W : World} {B q n c1 c2 g1 g2 : Nat} {A B' : List Ob} {o : Ob} (h : AtQ wr B q n c1 c2 g1 g2 A o B') (x : Ext wr W) : AtQ W B q n c1 c2 g1 g2 A o B' := ⟨h.ia.ext x, h.is.ext x, h.qe, h.ne⟩
theorem AtQ.hk {wr W : World} {B q n c1 c2 g1 g2 : Nat} {A B' : List Ob} {o : Ob} (h : AtQ wr B q n c1 c2 g1 g2 A o B') (x : HKp B wr W) : AtQ W B q n c1 c2 g1 g2 A o B' := ⟨IntS.hk h.ia x, IntS.hk h.is x, h.qe, h.ne⟩
theorem AtQ.rds {wr : World} {B q n c1 c2 g1 g2 : Nat} {A B' : List Ob} {o : Ob} (h : AtQ wr B q n c1 c2 g1 g2 A o B') (h1 : n ≤ c1) (h2 : n ≤ c2) :
    Rd wr ⟨g1, 0, none⟩ (ats A) ∧ Rd wr (tailAd g1 (q + 1) c1) (ats B') ∧ Rd wr ⟨g2, 0, none⟩ (hss A) ∧ Rd wr (tailAd g2 (q + 1) c2) (hss B') := by
  have la : (ats A).length = q := by unfold ats; rw [List.length_map]; exact h.qe
  have ls : (hss A).length = q := by unfold hss; rw [List.length_map]; exact h.qe
  have lb : (ats B').length = B'.length := List.length_map ..
  have lt : (hss B').length = B'.length := List.length_map ..
  have hn := h.ne
  have r1 := rd_to h.ia q (by simp; omega)
  have r2 := rd_from h.ia (q + 1) (by simp; omega) h1
  have r3 := rd_to h.is q (by simp; omega)
  have r4 := rd_from h.is (q + 1) (by simp; omega) h2
  rw [(mid_get _ _ _ q la).2.1] at r1
  rw [(mid_get _ _ _ q la).2.2] at r2
  rw [(mid_get _ _ _ q ls).2.1] at r3
  rw [(mid_get _ _ _ q ls).2.2] at r4
  exact ⟨r1, r2, r3, r4⟩
theorem rnd_gone {w6 w7 W : World} {v1 v2 : Value} {L' : List Run} (R : Rnd w wr h B i (A ++ o :: B') S L Bg u1 u2) (x6 : Ext wr w6) (k7 : HKp B w6 w7) (h7 : Heap w7 h B (S.set o.k 0) L' (Bg.set (o.k + 1) false)) (kk : KK i (A ++ B') (S.set o.k 0) L' (Bg.set (o.k + 1) false))
    (T : Two w7 W v1 v2 ([] ++ ats A ++ ats B') ([] ++ hss A ++ hss B')) : Rnd w W h B (i + 1) (A ++ B') (S.set o.k 0) L' (Bg.set (o.k + 1) false) v1 v2 := by
  have x7 : Ext w w7 := hk_ext (R.x.trans x6) (by rw [R.b]; exact Nat.le_refl _) k7
  have hb : B ≤ w7.heap.size := by have := x7.below.size; have := R.b; omega
  have i1 := IntS.base T.i1 hb
  have i2 := IntS.base T.i2 hb
  refine ⟨kk.mono (by omega), h7.ext T.x, ?_, ?_, T.ap, x7.trans T.x, R.b, ?_⟩
  · unfold ats at i1 ⊢; simpa using i1
  · unfold hss at i2 ⊢; simpa using i2
  · have := R.len; simp at this ⊢; omega
theorem Rnd.atq {n c1 c2 : Nat} {A1 A2 : Option Addr} (R : Rnd w wr h B i (A ++ o :: B') S L Bg (.slice A1 n c1) (.slice A2 n c2)) (hn : n = A.length + 1 + B'.length) :
    ∃ g1 g2, A1 = some ⟨g1, 0, none⟩ ∧ A2 = some ⟨g2, 0, none⟩ ∧ g1 < wr.heap.size ∧ g2 < wr.heap.size ∧ AtQ wr B A.length n c1 c2 g1 g2 A o B' := by
  have i1 := R.i1
  have i2 := R.i2
  rw [ats_app] at i1
  rw [hss_app] at i2
  obtain ⟨g1, rfl, _, l1, _⟩ := i1.at_ 0 (by simp; omega)
  obtain ⟨g2, rfl, _, l2, _⟩ := i2.at_ 0 (by simp; omega)
  exact ⟨g1, g2, rfl, rfl, l1, l2, i1, i2, rfl, hn⟩
end
theorem Heap.kt {w w' : World} {h base : Nat} {S : List Int} {L : List Run} {Bg : List Bool} (H : Heap w h base S L Bg) (k : KT [3] w w') : Heap w' h base S L Bg := by
  obtain ⟨s, sb, f, bb, v, H⟩ := H
  exact ⟨s, sb, f, bb, v, blk_kt H.blk k (by decide), ⟨blk_kt H.sto.head k (by decide), blk_kt H.sto.row k (by decide), H.sto.le⟩, ⟨blk_kt H.fre.blk k (by decide), own_kt H.fre.own k (by decide), H.fre.len, H.fre.bd⟩, blk_kt H.bg k (by decide), H.len, H.up, H.wd, H.lo⟩
theorem ats_one (O : List Ob) (o : Ob) : ats (O ++ [o]) = ats O ++ [(o.k : Int) + 1] := by unfold ats; simp
theorem hss_one (O : List Ob) (o : Ob) : hss (O ++ [o]) = hss O ++ [(o.h : Int)] := by unfold hss; simp
/-- all that is known behind, while objects go in their order -/
structure Fin (w wq : World) (h B i j : Nat) (O : List Ob) (S : List Int) (L : List Run) (Bg : List Bool) (u1 u2 : Value) : Prop where
  kk : KK i (O.drop j) S L Bg
  hp : Heap wq h B S L Bg
  i1 : IntS wq B u1 (ats O)
  i2 : IntS wq B u2 (hss O)
  x : Ext w wq
set_option maxRecDepth 100000 in
set_option maxHeartbeats 8000000 in
theorem keeps_core (a : Option Addr) (len cap : Nat) (z : Nat → Int) (w : World) (hl : len ≤ 9223372036854775807)
    (hr : ∀ i, i < len → ∃ b off, a = some ⟨b, off, none⟩ ∧ b < w.heap.size ∧ w.cell? ⟨b, off + i, none⟩ = some (.int .i64 (z i)) ∧ -9223372036854775808 ≤ z i ∧ z i ≤ 9223372036854775807) (vs : Nat → Nat) (hks : ∀ i, z i % 1048576 = (vs i : Int)) (hk : ∀ i, vs i ≤ 1048575) :
    Calls Try.prog 8 #[.slice a len cap] w fun e w' => e = .returned (.bool true) ∧ Below w.heap.size w w' := by
  have HR := Lib.hid hr
  have HKS := Lib.hid hks
  have HK := Lib.hid hk
  clear hr hks hk
  go_enter Try.func8, Try.ntmps8
  go_wp2_with fail
  refine (new 600 600 600 w rfl rfl (by omega)).mono ?_
  rintro e w1 ⟨⟨h, rfl, H1⟩, x1⟩
  have R1 : Hid (Rnd w w1 h w.heap.size 0 [] (List.replicate 600 0) (allL 600) (List.replicate 601 false) (.slice none 0 0) (.slice none 0 0)) := ⟨KK.start, H1, IntS.nil _ _, IntS.nil _ _, apart_nil _, x1, rfl, Nat.le_refl _⟩
  clear H1
  go_wp2_with fail
  go_loopw [4, 5, 6] (fun u1 u2 iv wr => ∃ (i : Nat) (O : List Ob) (S : List Int) (L : List Run) (Bg : List Bool), i ≤ len ∧ i ≤ 40 ∧ iv = .int .i64 i ∧ Rnd w wr h w.heap.size i O S L Bg u1 u2) (fun _ _ iv _ => len - (intOf iv).toNat)
  case atStart => exact ⟨0, [], _, _, _, Nat.zero_le _, by omega, rfl, R1.out⟩
  case round =>
    obtain ⟨i, O, S, L, Bg, hi, hi40, rfl, R⟩ := hrel
    have RR := Lib.hid R
    have olen := R.len
    obtain ⟨A1, c1, rfl, cc1, cc2⟩ := R.i1.slice
    obtain ⟨A2, c2, rfl, cc3, cc4⟩ := R.i2.slice
    have l1 : (ats O).length = O.length := List.length_map ..
    have l2 : (hss O).length = O.length := List.length_map ..
    rw [l1] at cc1 RR ⊢
    rw [l2] at cc3 RR ⊢
    unfold maxLen at cc2 cc4
    by_cases hlt : i < len ∧ i < 40
    · obtain ⟨hlt, hlt2⟩ := hlt
      obtain ⟨b, off, rfl, hb, c0, b1, b2⟩ := HR.out i hlt
      have c0' := (R.x.below.cell (p := ⟨b, off + i, none⟩) hb).trans c0
      have hks := HKS.out i
      have hv := HK.out i
      have HKSi := Lib.hid hks
      clear c0 hks R l1 l2
      generalize z i = x at c0' HKSi b1 b2
      generalize vs i = v at *
      have dl : decide ((i : Int) < (len : Int)) = true := by simp; omega
      have d40 : decide ((i : Int) < 40) = true := by simp; omega
      by_cases way : v % 4 = 0 ∧ 0 < O.length
      · obtain ⟨wy1, wy2⟩ := way
        have ql : v / 4 % O.length < O.length := Nat.mod_lt _ wy2
        have sp := er_split O _ ql
        have qe : ((v : Int) / 4) % (O.length : Int) = ((v / 4 % O.length : Nat) : Int) := by rw [Int.natCast_emod, Int.natCast_ediv]; rfl
        have tl : (O.take (v / 4 % O.length)).length = v / 4 % O.length := by rw [List.length_take]; omega
        have dll : (O.drop (v / 4 % O.length + 1)).length = O.length - (v / 4 % O.length + 1) := List.length_drop ..
        generalize v / 4 % O.length = q at *
        generalize O.take q = A at *
        generalize O.drop (q + 1) = B' at *
        generalize O[q] = o at *
        have RR2 := RR.out
        generalize hn : O.length = n at *
        rw [sp] at RR2
        have nn : n = A.length + 1 + B'.length := by omega
        obtain ⟨g1, g2, rfl, rfl, gl1, gl2, aq⟩ := RR2.atq nn
        rw [tl] at aq
        have AQ := Lib.hid aq
        have RR2 := Lib.hid RR2
        have C1 := Lib.hid (rnd_hash RR2.out)
        have C2 := Lib.hid (rnd_drop RR2.out)
        have ok := RR2.out.ok
        have C3 := Lib.hid (fun (W : World) (L' : List Run) (H : Heap W h w.heap.size (S.set o.k 0) L' (Bg.set (o.k + 1) false)) => gone_has (o := o) H (by have := ok.hd.fit; have := ok.hd.len; omega))
        obtain ⟨cl1, cl2⟩ := aq.cells
        have qI : (q : Int) < (n : Int) := by omega
        have dv : ((v : Int) % 4 == 0) = true := by simp; omega
        have dn : decide (0 < (n : Int)) = true := by simp; omega
        have dn' : decide (0 < n) = true := by simp; omega
        have QE := Lib.hid qe
        have hvr : (v : Int) < 1048576 := by omega
        clear sp tl dll wy1 qe aq ok nn
        go_wp2_with (go_at_call 12; refine (Word.place _ _ _ (by omega) (by omega) (by omega) (by omega)).mono ?_; rintro e w' ⟨rfl, rfl⟩; rw [HKSi.out])
        rw [QE.out]
        go_region_held3 (fun w' => w'.cell? ⟨g1, q, none⟩ = some (.int .i64 ((o.k : Int) + 1)) ∧ w'.cell? ⟨g2, q, none⟩ = some (.int .i64 (o.h : Int))) (first | exact (AQ.out.ext (Ext.refl _).drew).cells | exact aq5.cells | exact aq6.cells | exact AQ.out.cells)
          (first
            | (go_at_call 28; refine (C1.out _ (Ext.refl _).drew).mono ?_; rintro e w5 ⟨rfl, x5⟩; have aq5 := AQ.out.ext ((Ext.refl _).drew.trans x5))
            | (go_at_call 29; refine (C2.out _ ((Ext.refl _).drew.trans x5)).mono ?_; rintro e w6 ⟨rfl, ⟨L6, h6, kk6⟩, k6⟩; have aq6 := aq5.hk k6)
            | (go_at_call 15; refine (C3.out _ L6 h6).mono ?_; rintro e w7 ⟨rfl, rfl⟩))
        go_wp2_with fail
        obtain ⟨rd1, rd2, rd3, rd4⟩ := aq6.rds cc1 cc3
        have nq := aq6.ne
        have la : (ats A).length = q := by unfold ats; rw [List.length_map]; exact aq6.qe
        have ls : (hss A).length = q := by unfold hss; rw [List.length_map]; exact aq6.qe
        have lb : (ats B').length = n - (q + 1) := by unfold ats; rw [List.length_map]; omega
        have lt : (hss B').length = n - (q + 1) := by unfold hss; rw [List.length_map]; omega
        have sl1 := slice_to g1 n c1 q (by omega)
        have sl2 := slice_from g1 n c1 (q + 1) (by omega) cc1
        have sl3 := slice_to g2 n c2 q (by omega)
        have sl4 := slice_from g2 n c2 (q + 1) (by omega) cc3
        rw [show ((q + 1 : Nat) : Int) = (q : Int) + 1 from by omega] at sl2 sl4
        have wr1 : IntKind.i64.wrap ((q : Int) + 1) = (q : Int) + 1 := IntWalk.i64_in _ (by omega)
        have T0 := Two.start w6
        have RD := Lib.hid (And.intro rd1 (And.intro rd2 (And.intro rd3 rd4)))
        have LL := Lib.hid (And.intro la (And.intro lb (And.intro ls lt)))
        clear rd1 rd2 rd3 rd4 la lb ls lt nq
        go_region_held3 (fun _ => True) (exact trivial)
          (first
            | ((refine step_two1 (.const (.slice none 0 0)) (.tmp 77) (by rfl) (by rfl) (by rfl) (by assumption) _ _ _ _ (by rfl) LL.out.1 RD.out.1 (by simp; omega) ?_; intro v1 w8 T8))
            | ((refine step_two1 (.tmp 78) (.tmp 82) (by rfl) (by rfl) (by rfl) (by assumption) _ _ _ _ (by rfl) LL.out.2.1 RD.out.2.1 (by have := LL.out.1; simp; omega) ?_; intro v2 w9 T9))
            | ((refine step_two2 (.const (.slice none 0 0)) (.tmp 86) (by rfl) (by rfl) (by rfl) (by assumption) _ _ _ _ (by rfl) LL.out.2.2.1 RD.out.2.2.1 (by simp; omega) ?_; intro v3 w10 T10))
            | ((refine step_two2 (.tmp 87) (.tmp 91) (by rfl) (by rfl) (by rfl) (by assumption) _ _ _ _ (by rfl) LL.out.2.2.2 RD.out.2.2.2 (by have := LL.out.2.2.1; simp; omega) ?_; intro v4 w11 T11)))
        all_goals
          rename_i T12
          have R13 := Lib.hid (rnd_gone RR2.out ((Ext.refl _).drew.trans x5) k6 h6 kk6 (by assumption))
          go_wp2_with fail
          go_roundw
          case rel => exact ⟨i + 1, A ++ B', _, L6, _, by omega, by omega, by go_num, R13.out⟩
          case measure => simp [intOf]; omega
      · have RM := KK.room RR.out.kk hlt2 (v / 4 % 9) (by omega)
        have ne : ((v : Int) / 4) % 9 = ((v / 4 % 9 : Nat) : Int) := by omega
        have n8 : v / 4 % 9 ≤ 8 := by omega
        have NE := Lib.hid ne
        have hvr : (v : Int) < 1048576 := by omega
        have ways : (((v : Int) % 4 == 0) = false) ∨ (((v : Int) % 4 == 0) = true ∧ decide (0 < (O.length : Int)) = false ∧ decide (0 < O.length) = false) := by
          by_cases q : v % 4 = 0
          · right; exact ⟨by simp; omega, decide_eq_false (by omega), decide_eq_false (by omega)⟩
          · left; simp; omega
        clear way ne
        generalize v / 4 % 9 = n at *
        obtain ⟨bb, k, bq1, bq2, bq3, bq4⟩ := RM
        have KM := Lib.hid (RR.out.kk.make hlt2 n n8 bq1 bq2 bq3 bq4)
        have hsl := RR.out.kk.len
        have hbl := RR.out.kk.blen
        have HD := Lib.hid (made_hd (S := S) (Bg := Bg) (k := k) (n := n) i (by omega) (by omega) (by omega))
        have ML : Hid ((made S k n 1 0 0 i (intW 0)).length = 600) := Lib.hid (by rw [made_len']; exact hsl)
        have MK := Lib.hid (make_plain RR.out.hp 1 (.inl rfl) n 0 i (by omega) (by omega) (by omega) (by omega) (by omega))
        have BQ := Lib.hid (And.intro bq1 bq2)
        clear bq1 bq2 hsl hbl
        generalize hol : O.length = ol at *
        rcases ways with ways | ⟨ways, ways1, ways2⟩
        all_goals
          go_wp2_with (go_at_call 12; refine (Word.place _ _ _ (by omega) (by omega) (by omega) (by omega)).mono ?_; rintro e w' ⟨rfl, rfl⟩; rw [HKSi.out])
          rw [NE.out]
          refine MK.out.mono ?_
          rintro e w2 hp
          obtain ⟨k', hk', rfl, H2, K2⟩ := hp.2 bb BQ.out.1
          obtain rfl : k = k' := by have := BQ.out.2; omega
          have HH2 := Lib.hid H2
          clear hp hk' H2
          generalize hM : made S k n 1 0 0 i (intW 0) = M at *
          generalize Bg.set (k + 1) true = Bg2 at *
          generalize takeAt L bb (3 + (n : Int)) = L2 at *
          clear hM
          go_wp2_with fail
          go_loopw [11] (fun jv wq => ∃ j : Nat, j ≤ n ∧ jv = .int .i64 j ∧ Heap wq h w.heap.size (fld M k i j) L2 Bg2 ∧ HKp w.heap.size wr wq) (fun jv _ => n - (intOf jv).toNat)
          case atStart => exact ⟨0, Nat.zero_le _, rfl, HH2.out, K2⟩
          case round =>
            obtain ⟨j, hj, rfl, Hq, Kq⟩ := hrel
            have hdj := fld_hd HD.out i j
            have SZ := size_ Hq ((k : Int) + 1)
            rw [hdj.size] at SZ
            have SZ := Lib.hid SZ
            have HDJ := Lib.hid hdj
            have HHq := Lib.hid Hq
            clear hdj Hq
            by_cases hjn : j < n
            · have djn : decide ((j : Int) < (n : Int)) = true := by simp; omega
              have djn' : decide (j < n) = true := by simp; omega
              go_wp2_with fail
              refine SZ.out.mono ?_
              rintro e w5 ⟨rfl, x5⟩
              go_wp2_with fail
              refine (setfield_yes (HHq.out.ext x5) ((k : Int) + 1) (j : Int) _ (k + 3 + j) (by omega) (by rw [fld_len]; have := ML.out; omega) (by omega) (HDJ.out.in_ j hjn) (by omega)).mono ?_
              rintro e w6 ⟨rfl, h6, k6⟩
              go_wp2_with fail
              go_roundw
              case rel => exact ⟨j + 1, by omega, by go_num, by rw [fld]; exact h6, (Kq.ext x5).trans k6⟩
              case measure => simp [intOf]; omega
            · obtain rfl : j = n := by omega
              have djn : decide ((j : Int) < (j : Int)) = false := by simp
              have djn' : decide (j < j) = false := by simp
              go_wp2_with fail
              refine SZ.out.mono ?_
              rintro e w5 ⟨rfl, x5⟩
              have k5 := Kq.ext x5
              have h5 := HHq.out.ext x5
              have ia := IntS.hk RR.out.i1 k5
              have is := IntS.hk RR.out.i2 k5
              have ap := RR.out.ap
              have xw5 := hk_ext RR.out.x (Nat.le_refl _) k5
              have sz5 := xw5.below.size
              have ola : (ats O).length = ol := by unfold ats; rw [List.length_map]; exact hol
              have ols : (hss O).length = ol := by unfold hss; rw [List.length_map]; exact hol
              have OA := Lib.hid (And.intro ola ols)
              clear k5 ola ols SZ djn djn' x5
              go_wp2_with (at_builtin; refine wpList_append_int rfl (.tmp 121) (.tmp 123) rfl w.heap.size _ (ats O) rfl ?c1 _ w5.heap.size rfl (Blk.new _ _ _) ?c2 ?c3 ?_)
              case c1 => exact ia.ext ((Ext.refl _).alloc _)
              case c2 => rw [OA.out.1]; omega
              case c3 => simp; omega
              intro v4 w8 ia4 k4 hv4
              have kt4 := ki_kt (ia.ext ((Ext.refl _).alloc _)) k4
              have is4 := (is.ext ((Ext.refl _).alloc _)).ki k4 ap
              have ap4 := apart_app is ap hv4 (Nat.le_succ _)
              have x4 := ki_ext (xw5.alloc _) (ia.ext ((Ext.refl _).alloc _)) (Nat.le_refl _) k4
              have h4 := Heap.kt (h5.ext ((Ext.refl _).alloc _)) kt4
              have sz4 := x4.below.size
              clear k4 hv4 kt4 ia is h5 xw5
              go_wp2_with (at_builtin; refine wpList_append_int rfl (.tmp 125) (.tmp 127) rfl w.heap.size _ (hss O) rfl ?c1 _ w8.heap.size rfl (Blk.new _ _ _) ?c2 ?c3 ?_)
              case c1 => exact is4.ext ((Ext.refl _).alloc _)
              case c2 => rw [OA.out.2]; omega
              case c3 => simp; omega
              intro v5 w9 is5 k5 h5
              have kt5 := ki_kt (is4.ext ((Ext.refl _).alloc _)) k5
              have ia5 := (ia4.ext ((Ext.refl _).alloc _)).ki k5 ap4.symm
              have ap5 := (apart_app ia4 ap4.symm h5 (Nat.le_succ _)).symm
              have x5 := ki_ext (x4.alloc _) (is4.ext ((Ext.refl _).alloc _)) (Nat.le_refl _) k5
              have h9 := Heap.kt (h4.ext ((Ext.refl _).alloc _)) kt5
              have R9 : Hid (Rnd w w9 h w.heap.size (i + 1) (O ++ [⟨k, j, i⟩]) (fld M k i j) L2 Bg2 v4 v5) := Lib.hid ⟨KM.out, h9, by rw [ats_one]; exact ia5, by rw [hss_one]; exact is5, ap5, x5, rfl, by rw [List.length_append]; simp; omega⟩
              clear k5 h5 kt5 ia4 is4 h4 x4 ap4 ia5 is5 ap5 x5 h9
              go_wp2_with fail
              go_roundw
              case rel => exact ⟨i + 1, _, _, _, _, by omega, by omega, by go_num, R9.out⟩
              case measure => simp [intOf]; omega
    · have ways : (i < len ∧ 40 ≤ i) ∨ len ≤ i := by omega
      have F0 : Hid (Fin w wr h w.heap.size i 0 O S L Bg (.slice A1 O.length c1) (.slice A2 O.length c2)) := Lib.hid ⟨RR.out.kk, RR.out.hp, RR.out.i1, RR.out.i2, RR.out.x⟩
      clear hi hlt R l1 l2
      generalize hol : O.length = ol at *
      rcases ways with ⟨wy1, wy2⟩ | wy1
      all_goals
        go_wp2_with fail
        obtain ⟨wo, rfl⟩ : ∃ wo : World, wo = wr := ⟨_, rfl⟩
        go_loopw [12] (fun jv wq => ∃ (j : Nat) (S' : List Int) (L' : List Run) (Bg' : List Bool), j ≤ ol ∧ jv = .int .i64 j ∧ Fin w wq h w.heap.size i j O S' L' Bg' (.slice A1 ol c1) (.slice A2 ol c2)) (fun jv _ => ol - (intOf jv).toNat)
        case atStart => exact ⟨0, _, _, _, Nat.zero_le _, rfl, F0.out⟩
        case round =>
          obtain ⟨j, S', L', Bg', hj, rfl, F⟩ := hrel
          have FF := Lib.hid F
          by_cases hjn : j < ol
          · have sp := er_split O j (by omega)
            have dsp : O.drop j = [] ++ O[j] :: O.drop (j + 1) := by rw [List.nil_append]; exact List.drop_eq_getElem_cons (by omega)
            have tl : (O.take j).length = j := by rw [List.length_take]; omega
            have dll : (O.drop (j + 1)).length = ol - (j + 1) := by rw [List.length_drop, hol]
            have kk := F.kk
            have i1 := F.i1
            have i2 := F.i2
            rw [dsp] at kk
            rw [sp] at i1 i2
            have DE : Hid ([] ++ O.drop (j + 1) = O.drop (j + 1)) := Lib.hid (List.nil_append _)
            generalize hD : O.drop (j + 1) = D at *
            generalize O.take j = T at *
            generalize O[j] = o at *
            rw [ats_app] at i1
            rw [hss_app] at i2
            obtain ⟨g1, rfl, _, gl1, _⟩ := i1.at_ 0 (by simp; omega)
            obtain ⟨g2, rfl, _, gl2, _⟩ := i2.at_ 0 (by simp; omega)
            have AQ : Hid (AtQ wr w.heap.size j ol c1 c2 g1 g2 T o D) := Lib.hid ⟨i1, i2, tl, by omega⟩
            have C1 : Hid (∀ W, Ext wr W → _) := Lib.hid (fun W x => kk_hash kk (F.hp.ext x))
            have C2 : Hid (∀ W, Ext wr W → _) := Lib.hid (fun W x => kk_has kk (F.hp.ext x))
            have C3 : Hid (∀ W, Ext wr W → _) := Lib.hid (fun W x => kk_size kk (F.hp.ext x))
            have C4 : Hid (∀ W, Ext wr W → _) := Lib.hid (fun W x => kk_field kk (F.hp.ext x))
            have C5 : Hid (∀ W, Ext wr W → _) := Lib.hid (fun W x => kk_drop kk (F.hp.ext x) (by have := F.x.below.size; have := x.below.size; omega))
            have ok := kk.obj o (by simp)
            have n8 := ok.n8
            have h40 := ok.h40
            obtain ⟨cl1, cl2⟩ := AQ.out.cells
            have djn : decide ((j : Int) < (ol : Int)) = true := by simp; omega
            have djn' : decide (j < ol) = true := by simp; omega
            have jI : (j : Int) < (ol : Int) := by omega
            clear sp dsp tl dll kk i1 i2 F ok
            go_wp2_with fail
            go_region_held3 (fun w' => w'.cell? ⟨g1, j, none⟩ = some (.int .i64 ((o.k : Int) + 1)) ∧ w'.cell? ⟨g2, j, none⟩ = some (.int .i64 (o.h : Int))) (first | exact (AQ.out.ext (Ext.refl _).drew).cells | exact aq5.cells | exact AQ.out.cells)
              (first
                | (go_at_call 28; refine (C1.out _ (Ext.refl _).drew).mono ?_; rintro e w5 ⟨rfl, x5'⟩; have x5 := (Ext.refl _).drew.trans x5'; have aq5 := AQ.out.ext x5)
                | (go_at_call 15; refine (C2.out _ x5).mono ?_; rintro e w7 ⟨rfl, rfl⟩))
            have X5 := Lib.hid x5
            clear x5 x5' aq5 cl1 cl2
            go_wp2_with fail
            obtain ⟨wo2, rfl⟩ : ∃ wo2 : World, wo2 = wr := ⟨_, rfl⟩
            go_loopw [13] (fun tv wp => ∃ t : Nat, t ≤ o.n ∧ tv = .int .i64 t ∧ Ext wo2 wp) (fun tv _ => o.n - (intOf tv).toNat)
            case atStart => exact ⟨0, Nat.zero_le _, rfl, X5.out⟩
            case round =>
              obtain ⟨t, ht, rfl, xp⟩ := hrel
              have XP := Lib.hid xp
              obtain ⟨cl1, cl2⟩ := (AQ.out.ext xp).cells
              have SZ := Lib.hid (C3.out _ xp)
              by_cases htn : t < o.n
              · have C6 := Lib.hid (fun W x => C4.out W x t htn)
                have wr1 : IntKind.i64.wrap (100 * (o.h : Int)) = 100 * (o.h : Int) := IntWalk.i64_in _ (by omega)
                have wr2 : IntKind.i64.wrap (100 * (o.h : Int) + (t : Int)) = 100 * (o.h : Int) + (t : Int) := IntWalk.i64_in _ (by omega)
                have wr3 : IntKind.u32.wrap (100 * (o.h : Int) + (t : Int)) = 100 * (o.h : Int) + (t : Int) := IntWalk.u32_in _ (by omega)
                clear xp
                go_wp2_with fail
                refine SZ.out.mono ?_
                rintro e w6 ⟨rfl, x6'⟩
                have x6 := XP.out.trans x6'
                obtain ⟨cl3, cl4⟩ := (AQ.out.ext x6).cells
                have X6 := Lib.hid x6
                clear x6 x6' cl1 cl2
                go_wp2_with fail
                go_region_held3 (fun w' => w'.cell? ⟨g1, j, none⟩ = some (.int .i64 ((o.k : Int) + 1)) ∧ w'.cell? ⟨g2, j, none⟩ = some (.int .i64 (o.h : Int))) (first | exact (AQ.out.ext (X6.out.trans (Ext.refl _).drew)).cells | exact aq7.cells | exact (AQ.out.ext X6.out).cells)
                  (first
                    | (go_at_call 31; refine (C6.out _ (X6.out.trans (Ext.refl _).drew)).mono ?_; rintro e w7 ⟨rfl, x7'⟩; have x7 := X6.out.trans ((Ext.refl _).drew.trans x7'); have aq7 := AQ.out.ext x7))
                have X7 := Lib.hid x7
                clear x7 x7' aq7 cl3 cl4
                go_wp2_with fail
                go_roundw
                case rel => exact ⟨t + 1, by omega, by go_num, X7.out⟩
                case measure => simp [intOf]; omega
              · obtain rfl : t = o.n := by omega
                clear xp
                go_wp2_with fail
                refine SZ.out.mono ?_
                rintro e w6 ⟨rfl, x6'⟩
                have x6 := XP.out.trans x6'
                obtain ⟨cl3, cl4⟩ := (AQ.out.ext x6).cells
                have X6 := Lib.hid x6
                clear x6 x6' cl1 cl2
                go_wp2_with fail
                refine (C5.out _ X6.out).mono ?_
                rintro e w7 ⟨rfl, ⟨L7, h7, kk7⟩, k7⟩
                have i1 := IntS.hk (FF.out.i1.ext X6.out) k7
                have i2 := IntS.hk (FF.out.i2.ext X6.out) k7
                have x7 := hk_ext (FF.out.x.trans X6.out) (Nat.le_refl _) k7
                rw [DE.out, ← hD] at kk7
                have F7 : Hid (Fin w w7 h w.heap.size i (j + 1) O _ L7 _ (.slice (some ⟨g1, 0, none⟩) ol c1) (.slice (some ⟨g2, 0, none⟩) ol c2)) := Lib.hid ⟨kk7, h7, i1, i2, x7⟩
                clear kk7 h7 i1 i2 x7 k7 hD
                go_wp2_with fail
                go_roundw
                case rel => exact ⟨j + 1, _, _, _, by omega, by go_num, F7.out⟩
                case measure => simp [intOf]; omega
          · obtain rfl : j = ol := by omega
            have kk := F.kk
            have dn : O.drop j = [] := List.drop_eq_nil_iff.2 (by omega)
            rw [dn] at kk
            obtain ⟨wl, nx⟩ := kk.none
            have wd := words F.hp
            rw [wl, kk.len, show ((600 : Nat) : Int) - 600 = 0 from rfl] at wd
            have WD := Lib.hid wd
            have NX := Lib.hid (fun W (x : Ext wr W) => next (F.hp.ext x) 0 0 rfl (by omega))
            rw [nx] at NX
            have djn : decide ((j : Int) < (j : Int)) = false := by simp
            have djn' : decide (j < j) = false := by simp
            clear kk dn wl nx wd F
            go_wp2_with fail
            refine WD.out.mono ?_
            rintro e w5 ⟨rfl, x5⟩
            go_wp2_with fail
            refine (NX.out _ x5).mono ?_
            rintro e w6 ⟨rfl, rfl⟩
            go_wp2_with fail
            refine (awake _).mono ?_
            rintro e w7 ⟨rfl, x7⟩
            go_wp2_with fail
            go_ret
            exact ⟨rfl, ((FF.out.x.trans x5).trans x7).below⟩
theorem heapKeeps {H : Type} {enc : TypeId × Value → H} {r : Reach} {u0 : Nat} {d0 : DataW H} {p0 : List MemPlace} (v0 : Value) (w : World)
    (hv0 : Value.okWide Try.prog w r u0 22 v0) (h0 : DataW.Trod enc Try.prog w 0 (fun _ => true) true 22 v0 d0 p0) :
    Calls Try.prog 8 #[v0] w fun e w' => e = .returned (.bool true) ∧ Below w.heap.size w w' := by
  obtain ⟨a, len, cap, z, rfl, hl, hn⟩ := Shell.open_ints Try.underlying22 Try.underlying3 (by kernel_rfl) hv0 h0
  unfold maxLen at hl
  exact keeps_core a len cap z w (by omega) hn (fun i => (z i % 1048576).toNat) (fun i => by show _ = ((z i % 1048576).toNat : Int); omega) (fun i => by show (z i % 1048576).toNat ≤ 1048575; omega)
end Go.Proofs.Ytiffoapjhkapfaa.Heap
