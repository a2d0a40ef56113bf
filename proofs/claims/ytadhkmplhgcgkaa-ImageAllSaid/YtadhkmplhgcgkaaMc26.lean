/-
  RefTold, Read4, Bytes2, as one text (a claim has at most 60 files).
-/
import Derived.Test.YtadhkmplhgcgkaaMc23
import Derived.Test.YtadhkmplhgcgkaaMc10
import Derived.Test.YtadhkmplhgcgkaaMc25
import Derived.Test.YtadhkmplhgcgkaaMc24
import Derived.Test.YtadhkmplhgcgkaaMc22
namespace Go.Proofs.Ytadhkmplhgcgkaa.World
open Go.RowKit Go.Proofs.Ytadhkmplhgcgkaa.Plain
set_option linter.unusedVariables false
attribute [local go_sem ↓] Go.wp_at_zero Go.wp_at_succ
theorem owni_ext {w w1 w3 : World} {ob : Obj} {v : Value} {zs : List Int} (x : Ext w w1) (h : OwnI w1 w.heap.size v zs) (g : (w1.alloc ob).grownBy w3 v.ownBlock) : Ext w w3 :=
  Ext.of_below (Keep.below x.below (grow_keep g) x.below.size (fun i hi hj => by have := (h.own.block hj).1; omega))
theorem map_take_len {α : Type} (l : List Int) (f : Int → α) (k : Nat) (hk : k ≤ l.length) : ((l.take k).map f).length = k := by rw [List.length_map, List.length_take]; omega
theorem map_take_succ {α : Type} (l : List Int) (f : Int → α) (k : Nat) (hk : k < l.length) : (l.take (k + 1)).map f = (l.take k).map f ++ [f (l.getD k 0)] := by
  rw [List.take_succ_eq_append_getElem hk, List.map_append, List.getD_eq_getElem?_getD, List.getElem?_eq_getElem hk]; rfl
section
variable {w : World}
set_option maxRecDepth 100000 in
set_option maxHeartbeats 4000000 in
theorem rtold {v v' : Value} {l tt : List Int} (h : IntsAt w v l) (h' : IntsAt w v' tt) (hin : ∀ j, j < l.length → 0 ≤ l.getD j 0 ∧ l.getD j 0 < tt.length) (hl : l.length ≤ 1000000) :
    Calls Try.prog 100 #[v, v'] w fun e w' => ∃ u, e = .returned u ∧ OwnI w' w.heap.size u (l.map (fun x => tt.getD x.toNat 0)) ∧ Ext w w' := by
  obtain ⟨A, cp, e1, l1, l2⟩ := Row.form h
  replace e1 : v = .slice A l.length cp := e1
  subst e1
  obtain ⟨A', cp', e1', l1', l2'⟩ := Row.form h'
  replace e1' : v' = .slice A' tt.length cp' := e1'
  subst e1'
  have HI : Hid (∀ W, Ext w W → ∀ j, j < l.length → ∃ b off, A = some ⟨b, off, none⟩ ∧ b < W.heap.size ∧ W.cell? ⟨b, off + j, none⟩ = some (.int .i64 (l.getD j 0))) := Lib.hid (fun W y j hj => by
    obtain ⟨b, off, e, hb, hc⟩ := Row.at_ (h.ext y) j hj
    have c := hc 0 (by omega)
    exact ⟨b, off, e, hb, by simpa using c⟩)
  have HJ : Hid (∀ W, Ext w W → ∀ j, j < tt.length → ∃ b off, A' = some ⟨b, off, none⟩ ∧ b < W.heap.size ∧ W.cell? ⟨b, off + j, none⟩ = some (.int .i64 (tt.getD j 0))) := Lib.hid (fun W y j hj => by
    obtain ⟨b, off, e, hb, hc⟩ := Row.at_ (h'.ext y) j hj
    have c := hc 0 (by omega)
    exact ⟨b, off, e, hb, by simpa using c⟩)
  have HN := Lib.hid hin
  have MA : Hid ((l.take l.length).map (fun x => tt.getD x.toNat 0) = l.map (fun x => tt.getD x.toNat 0)) := Lib.hid (by rw [List.take_length])
  clear h h' hin
  obtain ⟨i0, hi, hz0, hz1, hz2⟩ := info_parts infoN
  obtain ⟨f, hf⟩ : ∃ f : Int → Int, (fun x : Int => tt.getD x.toNat 0) = f := ⟨_, rfl⟩
  have HF : Hid (∀ j : Nat, f (j : Int) = tt.getD j 0) := Lib.hid (fun j => by rw [← hf]; rfl)
  rw [hf] at MA ⊢
  clear hf
  have ML := Lib.hid (fun k hk => map_take_len l f k hk)
  have MS := Lib.hid (fun k hk => map_take_succ l f k hk)
  go_enter Try.func100, Try.ntmps100
  go_wp2_with fail
  go_loopw [5, 6] (fun u5 iv wr => ∃ k : Nat, k ≤ l.length ∧ iv = .int .i64 k ∧ ∃ A5 c5, u5 = .slice A5 k c5 ∧ OwnI wr w.heap.size (.slice A5 k c5) ((l.take k).map f) ∧ Ext w wr) (fun _ iv _ => l.length - (intOf iv).toNat)
  case atStart => exact ⟨0, Nat.zero_le _, rfl, _, _, rfl, by rw [List.take_zero]; exact OwnI.nil _ _, Ext.refl _⟩
  case round =>
    obtain ⟨k, hk, rfl, A5, c5, rfl, o5, x5⟩ := hrel
    have O5 := Lib.hid o5
    have X5 := Lib.hid x5
    by_cases hlt : k < l.length
    · obtain ⟨b, off, rfl, hb, c0⟩ := HI.out wr x5 k hlt
      obtain ⟨hy0, hy1⟩ := HN.out k hlt
      have MSk := Lib.hid (MS.out k hlt)
      generalize l.getD k 0 = y at *
      obtain ⟨yn, rfl⟩ := Int.eq_ofNat_of_zero_le hy0
      obtain ⟨b', off', rfl, hb', c1⟩ := HJ.out wr x5 yn (by omega)
      have hyI : (yn : Int) < (tt.length : Int) := hy1
      have kI : (k : Int) < (l.length : Int) := by omega
      rw [← HF.out yn] at c1
      generalize f (yn : Int) = z at *
      have o2 := o5
      unfold OwnI at o2
      rw [ML.out k hk] at o2
      have O2 := Lib.hid (o2.alloc (.cells #[.int .i64 z] 3))
      have s2 := x5.below.size
      clear o2 o5 x5
      go_wp2_with (at_builtin; refine wpList_append_lies _ rfl _ _ _ rfl w.heap.size 3 i0 (.int .i64 0) 1 8 Try.underlying22 hi hz0 hz1 hz2 rfl (by decide) _ _ _ (by rfl) O2.out ⟨wr.heap.size, 0, none⟩ 1 1 [.int .i64 z] (by rfl) (by rfl) (World.news_of_block (heap_alloc_new wr _)) (by simp [Value.oneCell']) (by omega) (by unfold maxLen; omega) (by omega) (by simp; omega) (wr.heap.size + 1) (by simp) ?_; intro gg cc w3 o3 g3 hat hlt3; have O3 := Lib.hid o3; have X3 := Lib.hid (owni_ext X5.out O5.out g3); clear o3 g3 hat)
      have L3 : Hid (OwnI w3 w.heap.size (.slice (some ⟨gg, 0, none⟩) (k + 1) cc) ((l.take (k + 1)).map f)) := Lib.hid (by
        unfold OwnI
        rw [ML.out (k + 1) (by omega), MSk.out, List.map_append]
        exact O3.out)
      go_roundw
      case rel => exact ⟨k + 1, by omega, by go_num, _, _, rfl, L3.out, X3.out⟩
      case measure => simp [intOf]; omega
    · obtain rfl : k = l.length := by omega
      clear o5 x5
      go_wp2_with fail
      go_ret
      exact ⟨_, rfl, by rw [← MA.out]; exact O5.out, X5.out⟩
end
end Go.Proofs.Ytadhkmplhgcgkaa.World
namespace Go.Proofs.Ytadhkmplhgcgkaa.World
open Go.RowKit Go.Proofs.Ytadhkmplhgcgkaa.Plain
set_option linter.unusedVariables false
attribute [local go_sem ↓] Go.wp_at_zero Go.wp_at_succ
/-- so many numbers -/
def numsR : Nat → RdS → List Int × RdS
  | 0, s => ([], s)
  | k + 1, s => ((numsR k s).1 ++ [(numR (numsR k s).2).1], (numR (numsR k s).2).2)
def placesR (s : RdS) : List Int × RdS := numsR (countR 4 s).1.toNat (countR 4 s).2
theorem okB_nums : ∀ (k : Nat) {s : RdS}, okB s.b → okB (numsR k s).2.b
  | 0, _, h => h
  | k + 1, s, h => okB_num (okB_nums k h)
theorem okB_places {s : RdS} (h : okB s.b) : okB (placesR s).2.b := okB_nums _ (okB_count h)
theorem nums_len : ∀ (k : Nat) (s : RdS), (numsR k s).1.length = k
  | 0, _ => rfl
  | k + 1, s => by show ((numsR k s).1 ++ [_]).length = k + 1; rw [List.length_append, nums_len k s]; rfl
theorem take_short (n : Nat) (s : RdS) : (takeR n s).2.b.length ≤ s.b.length := by
  unfold takeR
  split
  · split
    · show (s.b.drop n).length ≤ _; rw [List.length_drop]; omega
    · exact Nat.le_refl _
  · exact Nat.le_refl _
theorem num_short (s : RdS) : (numR s).2.b.length ≤ s.b.length := take_short 4 s
theorem wrong_b (x : Int) (s : RdS) : (wrongR x s).b = s.b := by unfold wrongR; split <;> rfl
theorem short_b (p : Int) (s : RdS) : (shortR p s).b = s.b := by unfold shortR; split; exact wrong_b _ _; rfl
theorem count_b (each : Int) (s : RdS) : (countR each s).2.b = (numR s).2.b := by unfold countR; split <;> exact short_b _ _
theorem count_short (each : Int) (s : RdS) : (countR each s).2.b.length ≤ s.b.length := by rw [count_b]; exact num_short s
theorem count_le {each : Int} (he : 1 ≤ each) (s : RdS) : (countR each s).1 * each ≤ ((countR each s).2.b.length : Int) := by
  rw [count_b]
  unfold countR
  split
  · rename_i h
    unfold shortR at h
    split at h
    · exfalso
      unfold wrongR at h
      split at h
      · exact absurd h (by show ¬ (3 : Int) = 0; decide)
      · rename_i h2; exact h2 h
    · show (numR s).1 * each ≤ _
      omega
  · show (0 : Int) * each ≤ _
    omega
theorem RdAt.grow {w0 w w' : World} {g : Nat} {s : RdS} {v : Value} (h : RdAt w0 w g s) (k : Keep (fun j => v.ownBlock = some j) w w') (hn : v.ownBlock ≠ some g) (hb : ∀ j, v.ownBlock = some j → w0.heap.size ≤ j) : RdAt w0 w' g s := by
  obtain ⟨u, b, r⟩ := h.ex
  exact ⟨⟨u, b.keep k hn, r⟩, Ext.of_below (Keep.below h.x.below k h.x.below.size (fun i hi e => by have := hb i e; omega)), h.hg⟩
/-- a row of the call's own has grown -/
theorem Keep.toBase {w w4 w6 : World} {g : Nat} {v : Value} (k : Keep (fun j => v.ownBlock = some j) w4 w6) (h : Keep (· = g) w w4) (hb : ∀ j, v.ownBlock = some j → w.heap.size ≤ j) : Keep (· = g) w w6 :=
  ⟨k.os.trans h.os, k.tape.trans h.tape, k.output.trans h.output, Nat.le_trans h.size k.size, fun i hi hn => (k.block i (Nat.lt_of_lt_of_le hi h.size) (fun e => by have := hb i e; omega)).trans (h.block i hi hn)⟩
theorem OwnI.of_own {w : World} {b : Nat} {v : Value} {l : List Int} (h : Own w b 3 v l.length 1 (fun i _ => .int .i64 (l.getD i 0))) : OwnI w b v l := by
  unfold Own at h; rw [flat_one] at h; exact h
section
variable {w w0 : World} {g : Nat} {s : RdS}
set_option maxRecDepth 100000 in
set_option maxHeartbeats 2000000 in
theorem places_ (h : RdAt w0 w g s) (hb : okB s.b) (hl : s.b.length ≤ 100000) : Calls Try.prog 49 #[.pointer (some ⟨g, 0, none⟩)] w fun e w' => ∃ v, e = .returned v ∧ OwnI w' w.heap.size v (placesR s).1 ∧ RdAt w0 w' g (placesR s).2 ∧ Keep (· = g) w w' := by
  have CC := Lib.hid (fun W2 (z : Ext w W2) => rcount_ (h.ext z) hb 4 (by omega) (by omega))
  obtain ⟨n0, n1⟩ := countR_in (each := 4) hb
  have hle := count_le (each := 4) (by omega) s
  have hsh := count_short 4 s
  have OKc := Lib.hid (okB_count (each := 4) hb)
  have EP : Hid (placesR s = numsR (countR 4 s).1.toNat (countR 4 s).2) := Lib.hid rfl
  have hgw : g < w.heap.size := by obtain ⟨v, b, _⟩ := h.ex; exact b.lt
  have hw0 := Lib.hid (show w0.heap.size ≤ w.heap.size from h.x.below.size)
  obtain ⟨iI, hI, hI0, hI1, hI2⟩ := info_parts infoN
  clear h hb
  generalize placesR s = ps at *
  generalize (countR 4 s).2 = s1 at *
  obtain ⟨n, hn⟩ := Int.eq_ofNat_of_zero_le n0
  rw [hn] at CC EP hle
  rw [Int.toNat_natCast] at EP
  have hn1 : n ≤ 100000 := by omega
  clear hn n0 n1 hle
  go_enter Try.func49, Try.ntmps49
  go_upto_region 3 with (go_at_call 46; refine (CC.out _ (is_ext _ _)).mono ?_; rintro e w2 ⟨rfl, hd, k2⟩; have HD := Lib.hid hd; have K2 := Lib.hid (Keep.trans (Keep.of_ext (is_ext w _) (· = g)) k2); clear hd k2)
  go_loopw [3, 6] (fun u3 iv wr => ∃ k : Nat, k ≤ n ∧ iv = .int .i64 k ∧ ∃ A c, u3 = .slice A k c ∧ OwnI wr w.heap.size (.slice A k c) (numsR k s1).1 ∧ RdAt w0 wr g (numsR k s1).2 ∧ Keep (· = g) w wr) (fun _ iv _ => n - (intOf iv).toNat)
  case atStart => exact ⟨0, Nat.zero_le _, rfl, none, 0, rfl, OwnI.nil _ _, HD.out, K2.out⟩
  case round =>
    obtain ⟨k, hk, rfl, A, c, rfl, o, d, kk⟩ := hrel
    have O := Lib.hid o
    have D := Lib.hid d
    have KK := Lib.hid kk
    by_cases hlt : k < n
    · have kI : (k : Int) < (n : Int) := by omega
      have hs2 : okB (numsR k s1).2.b := okB_nums k OKc.out
      obtain ⟨z0, z1⟩ := numR_in hs2
      have CN := Lib.hid (fun W2 (z : Ext wr W2) => rnumber_ (D.out.ext z) hs2)
      have LK := Lib.hid (nums_len k s1)
      have EN : Hid (numsR (k + 1) s1 = ((numsR k s1).1 ++ [(numR (numsR k s1).2).1], (numR (numsR k s1).2).2)) := Lib.hid rfl
      obtain ⟨vb, bb, _⟩ := d.ex
      have BB := Lib.hid bb
      clear o d kk bb hs2
      generalize (numR (numsR k s1).2).2 = s3 at *
      generalize (numR (numsR k s1).2).1 = z at *
      generalize (numsR k s1).1 = l at *
      go_wp2_with ((first | (go_at_call 48; refine (CN.out _ (is_ext _ _)).mono ?_; rintro e w4 ⟨rfl, hd, k4⟩; have D4 := Lib.hid hd; obtain ⟨vb2, bb2, _⟩ := hd.ex; have BB2 := Lib.hid bb2; clear bb2; have K4 := Lib.hid (KK.out.trans (Keep.trans (Keep.of_ext (is_ext wr _) (· = g)) k4)); have O4 : Hid (OwnI w4 w.heap.size (.slice A k c) l) := Lib.hid (OwnI.of_own (Own.keep (O.out.ext (is_ext wr _)).own k4 (BB.out.ext (is_ext wr _)) (by decide))); clear hd k4; have o5 := O4.out; unfold OwnI at o5; rw [LK.out] at o5; have O5 := Lib.hid (o5.alloc (.cells #[.int .i64 z] 3)); have s5 := K4.out.size; clear o5) | (at_builtin; refine wpList_append_lies _ rfl _ _ _ rfl w.heap.size 3 iI (.int .i64 0) 1 8 Try.underlying22 hI hI0 hI1 hI2 rfl (by decide) _ _ _ (by rfl) O5.out ⟨w4.heap.size, 0, none⟩ 1 1 [.int .i64 z] (by rfl) (by rfl) (World.news_of_block (heap_alloc_new w4 _)) (by simp [Value.oneCell']) (by omega) (by unfold maxLen; omega) (by omega) (by simp; omega) (w4.heap.size + 1) (by simp) ?_; intro gg cc w6 o6 g6 hat6 hlt6)))
      have KG := grow_keep g6
      have D6 : Hid (RdAt w0 w6 g s3) := Lib.hid (D4.out.grow KG (fun e => by obtain ⟨_, cs, hb⟩ := O4.out.own.block e; exact (BB2.out.ne hb (by decide)) rfl) (fun j e => Nat.le_trans hw0.out (O4.out.own.block e).1))
      have K6 : Hid (Keep (· = g) w w6) := Lib.hid (Keep.toBase KG K4.out (fun j e => (O4.out.own.block e).1))
      have O6 : Hid (OwnI w6 w.heap.size (.slice (some ⟨gg, 0, none⟩) (k + 1) cc) (l ++ [z])) := Lib.hid (by
        unfold OwnI
        show w6.ownsRow _ _ _ _ (l ++ [z]).length ((l ++ [z]).map _)
        rw [List.length_append, LK.out, List.map_append]
        exact o6)
      clear o6 g6 hat6 KG
      go_wp2_with fail
      go_roundw
      case rel => exact ⟨k + 1, by omega, by go_num, _, _, rfl, by rw [EN.out]; exact O6.out, by rw [EN.out]; exact D6.out, K6.out⟩
      case measure => simp [intOf] <;> omega
    · obtain rfl : k = n := by omega
      clear o d kk
      go_wp2_with fail
      go_ret
      exact ⟨_, rfl, by rw [EP.out]; exact O.out, by rw [EP.out]; exact D.out, KK.out⟩
end
end Go.Proofs.Ytadhkmplhgcgkaa.World
namespace Go.Proofs.Ytadhkmplhgcgkaa.World
open Go.RowKit Go.Proofs.Ytadhkmplhgcgkaa.Plain
set_option linter.unusedVariables false
attribute [local go_sem ↓] Go.wp_at_zero Go.wp_at_succ
theorem KT.trans {ts : List TypeId} {a b c : World} (h : KT ts a b) (k : KT ts b c) : KT ts a c :=
  ⟨k.os.trans h.os, k.tape.trans h.tape, k.output.trans h.output, Nat.le_trans h.size k.size, fun i hi hn => by
    have e := h.block i hi hn
    rw [k.block i (Nat.lt_of_lt_of_le hi h.size) (fun q => hn (by
      obtain ⟨t, cs, ht, hb⟩ := q
      refine ⟨t, cs, ht, ?_⟩
      have hb' : b.heap[i]? = _ := hb
      rw [e] at hb'
      exact hb'))]
    exact e⟩
theorem ret_u32 {a b : Int} (h : a = b) : Ending.returned (.int .u32 a) = .returned (.int .u32 b) := by rw [h]
theorem b4_len (n : Int) : (b4 n).length = 4 := rfl
theorem flat4_len (l : List Int) : (l.flatMap b4).length = 4 * l.length := by
  induction l with
  | nil => rfl
  | cons a l ih => rw [List.flatMap_cons, List.length_append, ih, b4_len, List.length_cons]; omega
theorem flat4_take (l : List Int) (k : Nat) (hk : k < l.length) : (l.take (k + 1)).flatMap b4 = (l.take k).flatMap b4 ++ b4 (l.getD k 0) := by
  rw [List.take_succ_eq_append_getElem hk, List.flatMap_append, List.getD_eq_getElem?_getD, List.getElem?_eq_getElem hk]
  simp
/-- a list's bytes -/
def encL (l : List Int) : List Int := b4 l.length ++ l.flatMap b4
def valW (u : PV) : Int := if u.obj = true then refW u.n else intW u.n
theorem valW_in (u : PV) (h : in64 u.n) : 0 ≤ valW u ∧ valW u < 4294967296 := by
  unfold valW refW intW cutI in64 at *
  repeat' split
  all_goals omega
section
variable {w w0 : World}
theorem number' {v : Value} {zs : List Int} (h : OwnB w w0.heap.size v zs) {m : Nat} (hm : zs.length = m) (hz : m ≤ 10000000) (x0 : Ext w0 w) {n : Int} (n0 : 0 ≤ n) (n1 : n < 4294967296) :
    Calls Try.prog 40 #[v, .int .u32 n] w fun e w' => ∃ A c, e = .returned (.slice A (m + 4) c) ∧ OwnB w' w0.heap.size (.slice A (m + 4) c) (zs ++ b4 n) ∧ KT [5] w w' ∧ Ext w0 w' := by
  subst hm
  exact number h hz x0 rfl n0 n1
set_option maxRecDepth 100000 in
set_option maxHeartbeats 2000000 in
theorem valueN (o : Bool) (n : Int) (h : in64 n) (w : World) : Calls Try.prog 84 #[.agg #[.bool o, .int .i64 n]] w fun e w' => e = .returned (.int .u32 (valW ⟨o, n⟩)) ∧ Ext w w' := by
  obtain ⟨h1, h2⟩ := h
  cases o with
  | true =>
    go_enter Try.func84, Try.ntmps84
    go_wp2_with (go_at_call 106; refine (Word.ref _ _ h1 h2).mono ?_; rintro e w' ⟨rfl, rfl⟩)
    go_ret
    exact ⟨ret_u32 rfl, (Ext.refl _).alloc _⟩
  | false =>
    go_enter Try.func84, Try.ntmps84
    go_wp2_with (go_at_call 107; refine (Word.int _ _ h1 h2).mono ?_; rintro e w' ⟨rfl, rfl⟩)
    go_ret
    exact ⟨ret_u32 rfl, (Ext.refl _).alloc _⟩
set_option maxRecDepth 100000 in
set_option maxHeartbeats 2000000 in
theorem numbers {v vl : Value} {zs l : List Int} (h : OwnB w w0.heap.size v zs) (hz : zs.length + 4 * l.length ≤ 5000000) (x0 : Ext w0 w) (hl : IntsAt w0 vl l) (hn : ∀ j, j < l.length → 0 ≤ l.getD j 0 ∧ l.getD j 0 < 4294967296) :
    Calls Try.prog 42 #[v, vl] w fun e w' => ∃ A c n, e = .returned (.slice A n c) ∧ OwnB w' w0.heap.size (.slice A n c) (zs ++ encL l) ∧ n = zs.length + 4 + 4 * l.length ∧ KT [5] w w' ∧ Ext w0 w' := by
  obtain ⟨A0, c0, rfl⟩ := h.form
  obtain ⟨Al, cl, e1, l1, l2⟩ := Row.form hl
  replace e1 : vl = .slice Al l.length cl := e1
  subst e1
  have HI : Hid (∀ W, Ext w0 W → ∀ j, j < l.length → ∃ b off, Al = some ⟨b, off, none⟩ ∧ b < W.heap.size ∧ W.cell? ⟨b, off + j, none⟩ = some (.int .i64 (l.getD j 0))) := Lib.hid (fun W y j hj => by
    obtain ⟨b, off, e, hb, hc⟩ := Row.at_ (hl.ext y) j hj
    have c := hc 0 (by omega)
    exact ⟨b, off, e, hb, by simpa using c⟩)
  have HN := Lib.hid hn
  have HH := Lib.hid h
  have X0 := Lib.hid x0
  have HF := Lib.hid (flat4_take l)
  have LF := Lib.hid (fun k => flat4_len (l.take k))
  generalize hm : zs.length = m at *
  have HM := Lib.hid hm
  clear h x0 hl hn hm
  go_enter Try.func42, Try.ntmps42
  go_wp2_with (go_at_call 40; refine (number' HH.out HM.out (by omega) X0.out (by omega) (by omega)).mono ?_; rintro e w2 ⟨A2, c2, rfl, o2, k2, x2⟩; have O2 := Lib.hid o2; have K2 := Lib.hid k2; have X2 := Lib.hid x2; clear o2 k2 x2)
  go_loopw [0, 6, 14] (fun u0 u6 iv wr => ∃ (i : Nat) (A : Option Addr) (c n : Nat), i ≤ l.length ∧ iv = .int .i64 i ∧ u0 = .slice A n c ∧ n = m + 4 + 4 * i ∧ OwnB wr w0.heap.size (.slice A n c) (zs ++ b4 l.length ++ (l.take i).flatMap b4) ∧ KT [5] w wr ∧ Ext w0 wr) (fun _ _ iv _ => l.length - (intOf iv).toNat)
  case atStart => exact ⟨0, A2, c2, _, Nat.zero_le _, rfl, rfl, rfl, by rw [List.take_zero]; simpa using O2.out, K2.out, X2.out⟩
  case round =>
    obtain ⟨i, A, c, n, hi, rfl, rfl, hn, o, k, x⟩ := hrel
    have O := Lib.hid o
    have K := Lib.hid k
    have X := Lib.hid x
    have NH := Lib.hid hn
    by_cases hlt : i < l.length
    · have iI : (i : Int) < (l.length : Int) := by omega
      obtain ⟨b, off, rfl, hb, cI⟩ := HI.out wr x i hlt
      obtain ⟨y0, y1⟩ := HN.out i hlt
      have FI := Lib.hid (HF.out i hlt)
      have LO : Hid ((zs ++ b4 (l.length : Int) ++ (l.take i).flatMap b4).length = n) := Lib.hid (by
        rw [List.length_append, List.length_append, LF.out, b4_len, HM.out, List.length_take, NH.out]; omega)
      generalize l.getD i 0 = y at *
      have hn5 : n ≤ 10000000 := by omega
      clear o k x hn
      go_wp2_with (go_at_call 40; refine (number' O.out LO.out hn5 X.out y0 y1).mono ?_; rintro e w3 ⟨A3, c3, rfl, o3, k3, x3⟩; have O3 := Lib.hid o3; have K3 := Lib.hid (KT.trans K.out k3); have X3 := Lib.hid x3; clear o3 k3 x3)
      go_roundw
      case rel => exact ⟨i + 1, A3, c3, _, by omega, by go_num, rfl, by rw [NH.out]; omega, by rw [FI.out, ← List.append_assoc]; exact O3.out, K3.out, X3.out⟩
      case measure => simp [intOf]; omega
    · obtain rfl : i = l.length := by omega
      clear o k x hn
      go_wp2_with fail
      go_ret
      refine ⟨_, _, _, rfl, ?_, NH.out, K.out, X.out⟩
      have q := O.out
      rw [List.take_length, List.append_assoc] at q
      exact q
/-- bytes of the call's own beside a box -/
structure NB (w0 ws : World) (v : Value) (zs : List Int) (m q : Nat) (T : TypeId) (cs : Array Value) (w : World) : Prop where
  own : OwnB w w0.heap.size v zs
  len : zs.length = m
  x : Ext w0 w
  k : KT [5] ws w
  b : Blk w q T cs
  ne : T ≠ 5
theorem NB.ext {w0 ws w w' : World} {v : Value} {zs : List Int} {m q : Nat} {T : TypeId} {cs : Array Value} (h : NB w0 ws v zs m q T cs w) (y : Ext w w') : NB w0 ws v zs m q T cs w' :=
  ⟨h.own.ext y, h.len, h.x.trans y, Keep.ext h.k y, h.b.ext y, h.ne⟩
/-- another row behind it, all else as it was -/
theorem NB.next {w0 ws w w' : World} {v v' : Value} {zs zs' : List Int} {m m' q : Nat} {T : TypeId} {cs : Array Value} (h : NB w0 ws v zs m q T cs w) (o : OwnB w' w0.heap.size v' zs') (l : zs'.length = m') (x : Ext w0 w') (k : KT [5] w w') : NB w0 ws v' zs' m' q T cs w' :=
  ⟨o, l, x, KT.trans h.k k, blk_kt h.b k (by simpa using h.ne), h.ne⟩
theorem number2 {ws : World} {v : Value} {zs : List Int} {m q : Nat} {T : TypeId} {cs : Array Value} (h : NB w0 ws v zs m q T cs w) (hz : m ≤ 10000000) {n : Int} (n0 : 0 ≤ n) (n1 : n < 4294967296) :
    Calls Try.prog 40 #[v, .int .u32 n] w fun e w' => ∃ A c, e = .returned (.slice A (m + 4) c) ∧ NB w0 ws (.slice A (m + 4) c) (zs ++ b4 n) (m + 4) q T cs w' := by
  refine (number' h.own h.len hz h.x n0 n1).mono ?_
  rintro e w' ⟨A, c, rfl, o, k, x⟩
  exact ⟨A, c, rfl, h.next o (by rw [List.length_append, h.len, b4_len]) x k⟩
theorem numbers2 {ws : World} {v vl : Value} {zs l : List Int} {m q : Nat} {T : TypeId} {cs : Array Value} (h : NB w0 ws v zs m q T cs w) (hz : m + 4 * l.length ≤ 5000000) (hl : IntsAt w0 vl l) (hn : ∀ j, j < l.length → 0 ≤ l.getD j 0 ∧ l.getD j 0 < 4294967296) :
    Calls Try.prog 42 #[v, vl] w fun e w' => ∃ A c n, e = .returned (.slice A n c) ∧ NB w0 ws (.slice A n c) (zs ++ encL l) n q T cs w' ∧ n = m + 4 + 4 * l.length := by
  refine (numbers h.own (by rw [h.len]; exact hz) h.x hl hn).mono ?_
  rintro e w' ⟨A, c, n, rfl, o, hn2, k, x⟩
  rw [h.len] at hn2
  refine ⟨A, c, n, rfl, h.next o ?_ x k, hn2⟩
  unfold encL
  rw [List.length_append, List.length_append, b4_len, flat4_len, h.len, hn2]; omega
end
end Go.Proofs.Ytadhkmplhgcgkaa.World
