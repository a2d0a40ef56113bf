/-
  Read4, LoadState, LoadState2, as one text (a claim has at most 60 files).
-/
import Derived.Test.YtjpalcejmloocaaGreatVq24
import Derived.Test.YtjpalcejmloocaaGreatVq28
import Derived.Test.YtjpalcejmloocaaGreatVq13
import Derived.Test.YtjpalcejmloocaaGreatVq22
namespace Go.Proofs.YtjpalcejmloocaaGreat.World
open Go.RowKit Go.Proofs.YtjpalcejmloocaaGreat.Plain
set_option linter.unusedVariables false
attribute [local go_sem ↓] Go.wp_at_zero Go.wp_at_succ
/-- so many numbers -/
def numsR : Nat → RdS → List Int × RdS
  | 0, s => ([], s)
  | k + 1, s => ((numsR k s).1 ++ [(numR (numsR k s).2).1], (numR (numsR k s).2).2)
def placesR (s : RdS) : List Int × RdS := numsR (countR 4 s).1.toNat (countR 4 s).2
theorem okB_nums : ∀ (k : Nat) {s : RdS}, okB s.b → okB (numsR k s).2.b
  | 0, _, h => h
  | k + 1, s, h => okB_num (okB_nums k h)
theorem okB_places {s : RdS} (h : okB s.b) : okB (placesR s).2.b := okB_nums _ (okB_count h)
theorem nums_len : ∀ (k : Nat) (s : RdS), (numsR k s).1.length = k
  | 0, _ => rfl
  | k + 1, s => by show ((numsR k s).1 ++ [_]).length = k + 1; rw [List.length_append, nums_len k s]; rfl
theorem take_short (n : Nat) (s : RdS) : (takeR n s).2.b.length ≤ s.b.length := by
  unfold takeR
  split
  · split
    · show (s.b.drop n).length ≤ _; rw [List.length_drop]; omega
    · exact Nat.le_refl _
  · exact Nat.le_refl _
theorem num_short (s : RdS) : (numR s).2.b.length ≤ s.b.length := take_short 4 s
theorem wrong_b (x : Int) (s : RdS) : (wrongR x s).b = s.b := by unfold wrongR; split <;> rfl
theorem short_b (p : Int) (s : RdS) : (shortR p s).b = s.b := by unfold shortR; split; exact wrong_b _ _; rfl
theorem count_b (each : Int) (s : RdS) : (countR each s).2.b = (numR s).2.b := by unfold countR; split <;> exact short_b _ _
theorem count_short (each : Int) (s : RdS) : (countR each s).2.b.length ≤ s.b.length := by rw [count_b]; exact num_short s
theorem count_le {each : Int} (he : 1 ≤ each) (s : RdS) : (countR each s).1 * each ≤ ((countR each s).2.b.length : Int) := by
  rw [count_b]
  unfold countR
  split
  · rename_i h
    unfold shortR at h
    split at h
    · exfalso
      unfold wrongR at h
      split at h
      · exact absurd h (by show ¬ (3 : Int) = 0; decide)
      · rename_i h2; exact h2 h
    · show (numR s).1 * each ≤ _
      omega
  · show (0 : Int) * each ≤ _
    omega
theorem RdAt.grow {w0 w w' : World} {g : Nat} {s : RdS} {v : Value} (h : RdAt w0 w g s) (k : Keep (fun j => v.ownBlock = some j) w w') (hn : v.ownBlock ≠ some g) (hb : ∀ j, v.ownBlock = some j → w0.heap.size ≤ j) : RdAt w0 w' g s := by
  obtain ⟨u, b, r⟩ := h.ex
  exact ⟨⟨u, b.keep k hn, r⟩, Ext.of_below (Keep.below h.x.below k h.x.below.size (fun i hi e => by have := hb i e; omega)), h.hg⟩
/-- a row of the call's own has grown -/
theorem Keep.toBase {w w4 w6 : World} {g : Nat} {v : Value} (k : Keep (fun j => v.ownBlock = some j) w4 w6) (h : Keep (· = g) w w4) (hb : ∀ j, v.ownBlock = some j → w.heap.size ≤ j) : Keep (· = g) w w6 :=
  ⟨k.os.trans h.os, k.tape.trans h.tape, k.output.trans h.output, Nat.le_trans h.size k.size, fun i hi hn => (k.block i (Nat.lt_of_lt_of_le hi h.size) (fun e => by have := hb i e; omega)).trans (h.block i hi hn)⟩
theorem OwnI.of_own {w : World} {b : Nat} {v : Value} {l : List Int} (h : Own w b 3 v l.length 1 (fun i _ => .int .i64 (l.getD i 0))) : OwnI w b v l := by
  unfold Own at h; rw [flat_one] at h; exact h
section
variable {w w0 : World} {g : Nat} {s : RdS}
set_option maxRecDepth 100000 in
set_option maxHeartbeats 2000000 in
theorem places_ (h : RdAt w0 w g s) (hb : okB s.b) (hl : s.b.length ≤ 100000) : Calls Tryz.prog 73 #[.pointer (some ⟨g, 0, none⟩)] w fun e w' => ∃ v, e = .returned v ∧ OwnI w' w.heap.size v (placesR s).1 ∧ RdAt w0 w' g (placesR s).2 ∧ Keep (· = g) w w' := by
  have CC := Lib.hid (fun W2 (z : Ext w W2) => rcount_ (h.ext z) hb 4 (by omega) (by omega))
  obtain ⟨n0, n1⟩ := countR_in (each := 4) hb
  have hle := count_le (each := 4) (by omega) s
  have hsh := count_short 4 s
  have OKc := Lib.hid (okB_count (each := 4) hb)
  have EP : Hid (placesR s = numsR (countR 4 s).1.toNat (countR 4 s).2) := Lib.hid rfl
  have hgw : g < w.heap.size := by obtain ⟨v, b, _⟩ := h.ex; exact b.lt
  have hw0 := Lib.hid (show w0.heap.size ≤ w.heap.size from h.x.below.size)
  obtain ⟨iI, hI, hI0, hI1, hI2⟩ := info_parts infoN
  clear h hb
  generalize placesR s = ps at *
  generalize (countR 4 s).2 = s1 at *
  obtain ⟨n, hn⟩ := Int.eq_ofNat_of_zero_le n0
  rw [hn] at CC EP hle
  rw [Int.toNat_natCast] at EP
  have hn1 : n ≤ 100000 := by omega
  clear hn n0 n1 hle
  go_enter Tryz.func73, Tryz.ntmps73
  go_upto_region 3 with (go_at_call 70; refine (CC.out _ (is_ext _ _)).mono ?_; rintro e w2 ⟨rfl, hd, k2⟩; have HD := Lib.hid hd; have K2 := Lib.hid (Keep.trans (Keep.of_ext (is_ext w _) (· = g)) k2); clear hd k2)
  go_loopw [3, 6] (fun u3 iv wr => ∃ k : Nat, k ≤ n ∧ iv = .int .i64 k ∧ ∃ A c, u3 = .slice A k c ∧ OwnI wr w.heap.size (.slice A k c) (numsR k s1).1 ∧ RdAt w0 wr g (numsR k s1).2 ∧ Keep (· = g) w wr) (fun _ iv _ => n - (intOf iv).toNat)
  case atStart => exact ⟨0, Nat.zero_le _, rfl, none, 0, rfl, OwnI.nil _ _, HD.out, K2.out⟩
  case round =>
    obtain ⟨k, hk, rfl, A, c, rfl, o, d, kk⟩ := hrel
    have O := Lib.hid o
    have D := Lib.hid d
    have KK := Lib.hid kk
    by_cases hlt : k < n
    · have kI : (k : Int) < (n : Int) := by omega
      have hs2 : okB (numsR k s1).2.b := okB_nums k OKc.out
      obtain ⟨z0, z1⟩ := numR_in hs2
      have CN := Lib.hid (fun W2 (z : Ext wr W2) => rnumber_ (D.out.ext z) hs2)
      have LK := Lib.hid (nums_len k s1)
      have EN : Hid (numsR (k + 1) s1 = ((numsR k s1).1 ++ [(numR (numsR k s1).2).1], (numR (numsR k s1).2).2)) := Lib.hid rfl
      obtain ⟨vb, bb, _⟩ := d.ex
      have BB := Lib.hid bb
      clear o d kk bb hs2
      generalize (numR (numsR k s1).2).2 = s3 at *
      generalize (numR (numsR k s1).2).1 = z at *
      generalize (numsR k s1).1 = l at *
      go_wp2_with ((first | (go_at_call 72; refine (CN.out _ (is_ext _ _)).mono ?_; rintro e w4 ⟨rfl, hd, k4⟩; have D4 := Lib.hid hd; obtain ⟨vb2, bb2, _⟩ := hd.ex; have BB2 := Lib.hid bb2; clear bb2; have K4 := Lib.hid (KK.out.trans (Keep.trans (Keep.of_ext (is_ext wr _) (· = g)) k4)); have O4 : Hid (OwnI w4 w.heap.size (.slice A k c) l) := Lib.hid (OwnI.of_own (Own.keep (O.out.ext (is_ext wr _)).own k4 (BB.out.ext (is_ext wr _)) (by decide))); clear hd k4; have o5 := O4.out; unfold OwnI at o5; rw [LK.out] at o5; have O5 := Lib.hid (o5.alloc (.cells #[.int .i64 z] 3)); have s5 := K4.out.size; clear o5) | (at_builtin; refine wpList_append_lies _ rfl _ _ _ rfl w.heap.size 3 iI (.int .i64 0) 1 8 Tryz.underlying25 hI hI0 hI1 hI2 rfl (by decide) _ _ _ (by rfl) O5.out ⟨w4.heap.size, 0, none⟩ 1 1 [.int .i64 z] (by rfl) (by rfl) (World.news_of_block (heap_alloc_new w4 _)) (by simp [Value.oneCell']) (by omega) (by unfold maxLen; omega) (by omega) (by simp; omega) (w4.heap.size + 1) (by simp) ?_; intro gg cc w6 o6 g6 hat6 hlt6)))
      have KG := grow_keep g6
      have D6 : Hid (RdAt w0 w6 g s3) := Lib.hid (D4.out.grow KG (fun e => by obtain ⟨_, cs, hb⟩ := O4.out.own.block e; exact (BB2.out.ne hb (by decide)) rfl) (fun j e => Nat.le_trans hw0.out (O4.out.own.block e).1))
      have K6 : Hid (Keep (· = g) w w6) := Lib.hid (Keep.toBase KG K4.out (fun j e => (O4.out.own.block e).1))
      have O6 : Hid (OwnI w6 w.heap.size (.slice (some ⟨gg, 0, none⟩) (k + 1) cc) (l ++ [z])) := Lib.hid (by
        unfold OwnI
        show w6.ownsRow _ _ _ _ (l ++ [z]).length ((l ++ [z]).map _)
        rw [List.length_append, LK.out, List.map_append]
        exact o6)
      clear o6 g6 hat6 KG
      go_wp2_with fail
      go_roundw
      case rel => exact ⟨k + 1, by omega, by go_num, _, _, rfl, by rw [EN.out]; exact O6.out, by rw [EN.out]; exact D6.out, K6.out⟩
      case measure => simp [intOf] <;> omega
    · obtain rfl : k = n := by omega
      clear o d kk
      go_wp2_with fail
      go_ret
      exact ⟨_, rfl, by rw [EP.out]; exact O.out, by rw [EP.out]; exact D.out, KK.out⟩
end
end Go.Proofs.YtjpalcejmloocaaGreat.World
namespace Go.Proofs.YtjpalcejmloocaaGreat.Heap
open Go.RowKit Go.Proofs.YtjpalcejmloocaaGreat.Plain Go.Proofs.YtjpalcejmloocaaGreat.Free
open Go.Proofs.YtjpalcejmloocaaGreat.World (firstT OwnI Own flat_one)
set_option linter.unusedVariables false
theorem Heap.keepI {w w' : World} {h base : Nat} {S : List Int} {L : List Run} {Bg : List Bool} {v : Value} (H : Heap w h base S L Bg) (k : Keep (fun j => v.ownBlock = some j) w w') (hv : ∀ j, v.ownBlock = some j → ∃ cs, Blk w j 3 cs) : Heap w' h base S L Bg := by
  obtain ⟨s, sb, f, bb, u, H⟩ := H
  have nn : ∀ {g : Nat} {t : TypeId} {cs : Array Value}, Blk w g t cs → t ≠ 3 → ¬ (v.ownBlock = some g) := fun hb ht e => by
    obtain ⟨cs', hc⟩ := hv _ e
    exact hb.ne hc ht rfl
  refine ⟨s, sb, f, bb, u, H.blk.keep k (nn H.blk (by decide)), H.sto.keep k (nn H.sto.head (by decide)) (nn H.sto.row (by decide)), H.fre.keep k (nn H.fre.blk (by decide)) (fun j hj => ?_), H.bg.keep k (nn H.bg (by decide)), H.len, H.up, H.wd, H.lo⟩
  obtain ⟨_, cur, hc⟩ := H.rowBlk j hj
  exact nn hc (by decide)
theorem OwnI.hk {w w' : World} {base b : Nat} {v : Value} {zs : List Int} (h : OwnI w b v zs) (k : HKp base w w') : OwnI w' b v zs := by
  refine own_keep h k (fun g hg hs => ?_)
  obtain ⟨_, cs, hb⟩ := World.Own.block h.own hg
  obtain ⟨_, t, cs', ht, hb'⟩ := hs
  by_cases e : t = 3
  · subst e; exact absurd ht (by decide)
  · exact hb'.ne hb e rfl
structure LS1 (w wr : World) (hp base : Nat) (v : Value) (i : Nat) : Prop where
  x : Ext w wr
  lo : w.heap.size ≤ base
  hi : base ≤ wr.heap.size
  heap : Heap wr hp base (fS i) (fL i) (fB i)
  own : OwnI wr base v (atL i)
section
variable {w wr w' : World} {hp base i : Nat} {v : Value}
theorem LS1.ext (h : LS1 w wr hp base v i) (x : Ext wr w') : LS1 w w' hp base v i :=
  ⟨h.x.trans x, h.lo, Nat.le_trans h.hi x.below.size, h.heap.ext x, h.own.ext x⟩
theorem LS1.made (h : LS1 w wr hp base v i) (k : HKp base wr w') : Ext w w' ∧ OwnI w' base v (atL i) ∧ base ≤ w'.heap.size :=
  ⟨hk_ext h.x h.lo k, OwnI.hk h.own k, Nat.le_trans h.hi k.size⟩
theorem LS1.push {w3 : World} {ob : Obj} {v' : Value} (x : Ext w w') (lo : w.heap.size ≤ base) (hi : base ≤ w'.heap.size) (H : Heap w' hp base (fS (i + 1)) (fL (i + 1)) (fB (i + 1))) (own : OwnI w' base v (atL i)) (g : (w'.alloc ob).grownBy w3 v.ownBlock) (o : w3.ownsRow base 3 1 v' (i + 1) ((atL i).map (Value.int .i64) ++ [.int .i64 ((tO i : Int) + 1)])) : LS1 w w3 hp base v' (i + 1) := by
  have x1 : Ext w' (w'.alloc ob) := (Ext.refl _).alloc _
  have k : Keep (fun k => v.ownBlock = some k) (w'.alloc ob) w3 := ⟨g.os, g.tape, g.output, g.size, fun k hk hn => g.block k hk (fun e => hn e.symm)⟩
  have ob' := own.ext x1
  refine ⟨Ext.of_below (Keep.below (x.trans x1).below k (x.trans x1).below.size (fun i hi hs => ?_)), lo, Nat.le_trans (Nat.le_trans hi x1.below.size) k.size, (H.ext x1).keepI k (fun j hj => ?_), ?_⟩
  · have := (World.Own.block ob'.own hs).1; omega
  · exact (World.Own.block ob'.own hj).2
  · unfold OwnI
    rw [atL_succ, List.length_append, List.map_append, atL_len]
    exact o
end
end Go.Proofs.YtjpalcejmloocaaGreat.Heap
namespace Go.Proofs.YtjpalcejmloocaaGreat.Heap
open Go.RowKit Go.Proofs.YtjpalcejmloocaaGreat.Plain Go.Proofs.YtjpalcejmloocaaGreat.Free
open Go.Proofs.YtjpalcejmloocaaGreat.World (firstT OwnI Own)
set_option linter.unusedVariables false
structure LS2 (w wr : World) (hp base : Nat) (v : Value) : Prop where
  x : Ext w wr
  lo : w.heap.size ≤ base
  hi : base ≤ wr.heap.size
  heap : ∃ S L, Hd1 S ∧ Heap wr hp base S L (fB 23)
  own : OwnI wr base v (atL 23)
def LP2 (w wr : World) (hp base : Nat) (v : Value) (e : Ending) (w' : World) : Prop := e = .returned (.bool true) ∧ LS2 w w' hp base v ∧ HKp base wr w'
section
variable {w wr w' : World} {hp base : Nat} {v : Value}
theorem LS2.cell {A : Option Addr} {c : Nat} (h : LS2 w wr hp base (.slice A 23 c)) : ∃ g off, A = some ⟨g, off, none⟩ ∧ g < wr.heap.size ∧ ∀ i, i < 23 → wr.cell? ⟨g, off + i, none⟩ = some (.int .i64 ((tO i : Int) + 1)) := by
  have r : World.Row wr (.slice A 23 c) 23 1 (fun i _ => .int .i64 ((atL 23).getD i 0)) := by
    have := World.OwnI.ints h.own
    unfold World.IntsAt at this
    rw [atL_len] at this
    exact this
  obtain ⟨g, off, e, hg, _⟩ := World.Row.at_ r 0 (by omega)
  refine ⟨g, off, e, hg, fun i hi => ?_⟩
  obtain ⟨g', off', e', _, q⟩ := World.Row.at_ r i hi
  rw [e] at e'
  injection e' with e'
  injection e' with e1 e2
  subst e1 e2
  have := q 0 (by omega)
  rw [Nat.mul_one, Nat.add_zero, atL_at hi] at this
  exact this
theorem LS1.second (h : LS1 w wr hp base v 23) : LS2 w wr hp base v := ⟨h.x, h.lo, h.hi, ⟨_, _, hd_start, h.heap⟩, h.own⟩
theorem LS2.ext (h : LS2 w wr hp base v) (x : Ext wr w') : LS2 w w' hp base v := by
  obtain ⟨S, L, hd, hh⟩ := h.heap
  exact ⟨h.x.trans x, h.lo, Nat.le_trans h.hi x.below.size, ⟨S, L, hd, hh.ext x⟩, h.own.ext x⟩
theorem LS2.turn (h : LS2 w wr hp base v) {S : List Int} {L : List Run} {e : Ending} (hd : Hd1 S) (t : Turned wr hp base S L (fB 23) e w') : LP2 w wr hp base v e w' :=
  ⟨t.1, ⟨hk_ext h.x h.lo t.2.2, h.lo, Nat.le_trans h.hi t.2.2.size, ⟨S, L, hd, t.2.1⟩, OwnI.hk h.own t.2.2⟩, t.2.2⟩
theorem LS2.class_ (h : LS2 w wr hp base v) {i : Nat} (hi : i < 23) (c : Int) (c0 : 0 ≤ c) (c1 : c ≤ 65536) :
    Calls Tryz.prog 122 #[.pointer (some ⟨hp, 0, none⟩), .int .i64 ((tO i : Int) + 1), .int .i64 c] wr (LP2 w wr hp base v) := by
  obtain ⟨S, L, hd, hh⟩ := h.heap
  have := tO_up i hi
  exact (setclass_yes hh ((tO i : Int) + 1) c (tO i + 1) (by omega) (by rw [hd.len]; omega) c0 c1 (fB_has i hi)).mono (fun e w' t => h.turn (hd.body hi (by omega) (by omega) _) t)
theorem LS2.mark_ (h : LS2 w wr hp base v) {i : Nat} (hi : i < 23) (fi : Bool) :
    Calls Tryz.prog 123 #[.pointer (some ⟨hp, 0, none⟩), .int .i64 ((tO i : Int) + 1), .int .i64 0, .bool fi] wr (LP2 w wr hp base v) := by
  obtain ⟨S, L, hd, hh⟩ := h.heap
  have := tO_up i hi
  have e : Store.getL S (tO i : Int) = S.getD (tO i) 0 := by have := hd.getL hi; rwa [show (tO i : Int) + 1 - 1 = (tO i : Int) by omega] at this
  exact (setmark_yes hh ((tO i : Int) + 1) 0 fi (tO i) (by omega) (by rw [hd.len]; omega) (by omega) (by omega) (fB_has i hi) e).mono (fun e w' t => h.turn (hd.mark hi rfl 0 fi) t)
theorem LS2.field_ (h : LS2 w wr hp base v) {i : Nat} (hi : i < 23) (hf : (firstT i).fmt ≠ 3) {j : Nat} (hj : j < tW i) (x : Int) (hx : 0 ≤ x ∧ x < 4294967296) :
    Calls Tryz.prog 124 #[.pointer (some ⟨hp, 0, none⟩), .int .i64 ((tO i : Int) + 1), .int .i64 j, .int .u32 x] wr (LP2 w wr hp base v) := by
  obtain ⟨S, L, hd, hh⟩ := h.heap
  have := tO_up i hi
  exact (setfield_yes hh ((tO i : Int) + 1) j x (tO i + (3 + j)) (by omega) (by rw [hd.len]; omega) hx (hd.in_ hi hf hj) (by omega)).mono (fun e w' t => h.turn (hd.body hi (by omega) (by omega) _) t)
theorem LS2.byte_ (h : LS2 w wr hp base v) {i : Nat} (hi : i < 23) (hf : (firstT i).fmt = 3) {j : Nat} (hj : j < 4 * tW i) (u : Int) (hu : 0 ≤ u ∧ u ≤ 255) :
    Calls Tryz.prog 126 #[.pointer (some ⟨hp, 0, none⟩), .int .i64 ((tO i : Int) + 1), .int .i64 j, .int .i64 u] wr (LP2 w wr hp base v) := by
  obtain ⟨S, L, hd, hh⟩ := h.heap
  have := tO_up i hi
  exact (setbyte_yes hh ((tO i : Int) + 1) j u (tO i + (3 + j / 4)) (by omega) (by rw [hd.len]; omega) (hd.inb hi hf hj) (by omega) (by omega) (by omega)).mono (fun e w' t => h.turn (hd.body hi (by omega) (by omega) _) t)
end
end Go.Proofs.YtjpalcejmloocaaGreat.Heap
