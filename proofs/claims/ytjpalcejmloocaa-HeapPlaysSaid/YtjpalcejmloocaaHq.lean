/-
  Contracts of package heap (chapter 5): what a heap is; New, Has, Next, head, Size, Words.
-/
import Derived.Test.YtjpalcejmloocaaFree2
import Derived.Test.YtjpalcejmloocaaStore
import Derived.Test.YtjpalcejmloocaaHeader
import Derived.Test.YtjpalcejmloocaaWord
import Derived.ScopeJumps
import Derived.WalkMore
namespace Go.Proofs.Ytjpalcejmloocaa.Heap
open Go.RowKit Go.Proofs.Ytjpalcejmloocaa.Plain Go.Proofs.Ytjpalcejmloocaa.Free
set_option linter.unusedVariables false

structure Hp (w : World) (h s sb f bb base : Nat) (v : Value) (S : List Int) (L : List Run) (Bg : List Bool) : Prop where
  blk : Blk w h 57 #[.pointer (some ⟨s, 0, none⟩), .pointer (some ⟨f, 0, none⟩), .slice (some ⟨bb, 0, none⟩) Bg.length Bg.length]
  sto : Store.Sto w s sb S
  fre : Fre w f base v L S.length
  bg : Blk w bb 4 (Bg.map Value.bool).toArray
  len : Bg.length = S.length + 1
  up : ∀ r ∈ L, r.1 + r.2 ≤ S.length
  wd : ∀ x ∈ S, 0 ≤ x ∧ x < 4294967296
  lo : base ≤ h ∧ base ≤ s ∧ base ≤ sb ∧ base ≤ f ∧ base ≤ bb
/-- the heap's own blocks that are turned -/
structure O3 where
  sb : Nat
  f : Nat
  bb : Nat
def Heap (w : World) (h base : Nat) (o : O3) (S : List Int) (L : List Run) (Bg : List Bool) : Prop := ∃ s sb f bb v, o = ⟨sb, f, bb⟩ ∧ Hp w h s sb f bb base v S L Bg
theorem Hp.ext {w w' : World} {h s sb f bb base : Nat} {v : Value} {S : List Int} {L : List Run} {Bg : List Bool} (H : Hp w h s sb f bb base v S L Bg) (x : Ext w w') : Hp w' h s sb f bb base v S L Bg :=
  ⟨H.blk.ext x, H.sto.ext x, H.fre.ext x, H.bg.ext x, H.len, H.up, H.wd, H.lo⟩
theorem Heap.ext {w w' : World} {h base : Nat} {o : O3} {S : List Int} {L : List Run} {Bg : List Bool} (H : Heap w h base o S L Bg) (x : Ext w w') : Heap w' h base o S L Bg := by
  obtain ⟨s, sb, f, bb, v, rfl, H⟩ := H; exact ⟨s, sb, f, bb, v, rfl, H.ext x⟩
theorem infoB : (Try.prog.info? 4).map (fun i => (i.zero, i.size, i.bytes)) = some (some (.bool false), 1, 1) := by kernel_rfl
theorem make_bool (n : Nat) (hn : n ≤ 70000) (w : World) : (Instr.makeSlice 54 (.int .i64 (n : Int)) (.int .i64 (n : Int))).run Try.prog w = .ok (.slice (some ⟨w.heap.size, 0, none⟩) n n) (w.alloc (.cells (Array.replicate n (.bool false)) 4)) := by
  obtain ⟨i0, hi, hz0, hz1, hz2⟩ := info_parts infoB
  have h := run_make (P := Try.prog) w 54 4 i0 (.bool false) Try.underlying54 hi hz0 .i64 .i64 (n : Int) (n : Int) (by omega) (by omega) (by rw [hz2]; omega) (by omega)
  rw [h]
  have e : madeCells (Value.cells (.bool false)) ((n : Int).toNat * i0.size) = Array.replicate n (.bool false) := by
    rw [hz1, Nat.mul_one, Int.toNat_natCast]
    apply Array.ext
    · simp [madeCells]
    · intro j h1 h2
      simp [madeCells, Value.cells, Nat.mod_one]
  rw [e, Int.toNat_natCast]
def falses (n : Nat) : Array Value := Array.replicate (n + 1) (.bool false)
theorem make_bool1 (n : Nat) (hn : n ≤ 65536) (w : World) : (Instr.makeSlice 54 (.int .i64 ((n : Int) + 1)) (.int .i64 ((n : Int) + 1))).run Try.prog w = .ok (.slice (some ⟨w.heap.size, 0, none⟩) (n + 1) (n + 1)) (w.alloc (.cells (falses n) 4)) := make_bool (n + 1) (by omega) w
set_option maxHeartbeats 1000000 in
theorem new (v M : Int) (n : Nat) (w : World) (hM : (if 65536 < v then 65536 else v) = M) (hn : (if 0 < M then M else 0) = (n : Int)) (hn2 : n ≤ 65536) :
    Calls Try.prog 5 #[.int .i64 v] w fun e w' => (∃ h o, e = .returned (.pointer (some ⟨h, 0, none⟩)) ∧ Heap w' h w.heap.size o (List.replicate n 0) (allL n) (List.replicate (n + 1) false)) ∧ Ext w w' := by
  have hmk := make_bool1 n hn2
  have HM := Lib.hid hM
  have HN := Lib.hid hn
  clear hM hn
  go_enter Try.func5, Try.ntmps5
  go_wp2_with fail
  refine (Store.new_sto v M n _ HM.out HN.out hn2).mono ?_
  rintro e w1 ⟨rfl, s1, x1⟩
  go_wp2_with fail
  refine (Free.new v M n _ HM.out HN.out hn2).mono ?_
  rintro e w2 ⟨rfl, ⟨u, f2⟩, x2⟩
  have hs1 := x1.below.size
  have hs2 := x2.below.size
  have s2 := s1.ext x2
  have hsl := s1.head.lt
  go_wp2_with fail
  have hl := Store.len_sto s2
  rw [List.length_replicate] at hl
  refine hl.mono ?_
  rintro e w3 ⟨rfl, rfl⟩
  clear hl
  go_wp2
  go_ret
  refine ⟨⟨_, ⟨w.heap.size, w1.heap.size, w2.heap.size⟩, rfl, w.heap.size + 1, w.heap.size, w1.heap.size, w2.heap.size, u, rfl, ?_⟩, (((x1.trans x2).alloc _).alloc _)⟩
  have e1 : falses n = ((List.replicate (n + 1) false).map Value.bool).toArray := by simp [falses]
  refine ⟨?_, (s2.ext ((Ext.refl _).alloc _)).ext ((Ext.refl _).alloc _), ?_, ?_, by simp, ?_, ?_, by omega⟩
  · have hb := Blk.new (w2.alloc (.cells (falses n) 4)) 57 #[.pointer (some ⟨w.heap.size + 1, 0, none⟩), .pointer (some ⟨w1.heap.size, 0, none⟩), .slice (some ⟨w2.heap.size, 0, none⟩) (n + 1) (n + 1)]
    rw [World.size_alloc] at hb
    simpa using hb
  · have ff := (f2.ext ((Ext.refl _).alloc (.cells (falses n) 4))).ext ((Ext.refl _).alloc (.cells #[.pointer (some ⟨w.heap.size + 1, 0, none⟩), .pointer (some ⟨w1.heap.size, 0, none⟩), .slice (some ⟨w2.heap.size, 0, none⟩) (n + 1) (n + 1)] 57))
    refine ⟨by simpa using ff.blk, ?_, ff.len, ff.bd⟩
    have := ff.own
    refine ⟨this.1, ?_⟩
    rcases this.2 with h0 | ⟨g, cap, cur, e, hb, rest⟩
    · exact .inl h0
    · exact .inr ⟨g, cap, cur, e, by omega, rest⟩
  · rw [← e1]; exact (Blk.new _ _ _).alloc _
  · intro r hr
    unfold allL at hr
    split at hr
    · cases hr
    · simp at hr; subst hr; simp
  · intro x hx
    rw [List.eq_of_mem_replicate hx]; omega
def hasB (Bg : List Bool) (at_ : Int) : Bool := decide (0 < at_ ∧ at_ < Bg.length) && Bg.getD at_.toNat false
section
variable {w : World} {h base : Nat} {o : O3} {S : List Int} {L : List Run} {Bg : List Bool}
theorem bg_at (Bg : List Bool) (k : Nat) (hk : k < Bg.length) : (Bg.map Value.bool).toArray[k]? = some (.bool (Bg.getD k false)) := by simp [List.getD, hk]
set_option maxHeartbeats 1000000 in
theorem has (H : Heap w h base o S L Bg) (at_ : Int) : Calls Try.prog 37 #[.pointer (some ⟨h, 0, none⟩), .int .i64 at_] w fun e w' => e = .returned (.bool (hasB Bg at_)) ∧ w = w' := by
  obtain ⟨s, sb, f, bb, v, rfl, H⟩ := H
  obtain ⟨r1, r2, r3⟩ := H.blk.rules
  have hlen := H.len
  have hsl := H.sto.le
  have HB := Lib.hid H.bg
  by_cases h1 : 0 < at_
  · by_cases h2 : at_ < (Bg.length : Int)
    · obtain ⟨k, rfl⟩ := Int.eq_ofNat_of_zero_le (Int.le_of_lt h1)
      have c1 : w.cell? ⟨bb, k, none⟩ = some (.bool (Bg.getD k false)) := (HB.out.cell k).trans (bg_at Bg k (by omega))
      have E : Hid (hasB Bg (k : Int) = Bg.getD k false) := by unfold hasB; rw [decide_eq_true ⟨h1, h2⟩, Int.toNat_natCast, Bool.true_and]; exact Lib.hid rfl
      clear H hlen
      generalize Bg.length = n at *
      generalize Bg.getD k false = b at *
      go_enter Try.func37, Try.ntmps37
      go_wp2
      go_ret
      exact ⟨by rw [E.out]; rfl, rfl⟩
    · have E : Hid (hasB Bg at_ = false) := by unfold hasB; rw [decide_eq_false (by omega), Bool.false_and]; exact Lib.hid rfl
      have d1 : decide (at_ < (Bg.length : Int)) = false := by simpa using h2
      clear H hlen
      generalize Bg.length = n at *
      go_enter Try.func37, Try.ntmps37
      go_wp2
      go_ret
      exact ⟨by rw [E.out]; rfl, rfl⟩
  · have E : Hid (hasB Bg at_ = false) := by unfold hasB; rw [decide_eq_false (by omega), Bool.false_and]; exact Lib.hid rfl
    have d1 : decide (0 < at_) = false := by simpa using h1
    clear H hlen
    go_enter Try.func37, Try.ntmps37
    go_wp2
    go_ret
    exact ⟨by rw [E.out]; rfl, rfl⟩
def nextN (Bg : List Bool) (k : Nat) : Nat := if k + 1 < Bg.length then (if Bg.getD (k + 1) false then k + 1 else nextN Bg (k + 1)) else 0
  termination_by Bg.length - k
theorem next_end (Bg : List Bool) (k : Nat) (h : Bg.length ≤ k + 1) : nextN Bg k = 0 := by rw [nextN, if_neg (by omega)]
theorem next_yes (Bg : List Bool) (k : Nat) (h : k + 1 < Bg.length) (hb : Bg.getD (k + 1) false = true) : nextN Bg k = k + 1 := by rw [nextN, if_pos h, if_pos hb]
theorem next_no (Bg : List Bool) (k : Nat) (h : k + 1 < Bg.length) (hb : Bg.getD (k + 1) false = false) : nextN Bg k = nextN Bg (k + 1) := by rw [nextN, if_pos h, if_neg (by rw [hb]; simp)]
set_option maxRecDepth 100000 in
set_option maxHeartbeats 1000000 in
theorem next (H : Heap w h base o S L Bg) (at_ : Int) (k0 : Nat) (hk0 : (if at_ < 0 then 0 else at_) = (k0 : Int)) (hat : at_ ≤ 9223372036854775807) : Calls Try.prog 22 #[.pointer (some ⟨h, 0, none⟩), .int .i64 at_] w fun e w' => e = .returned (.int .i64 (nextN Bg k0)) ∧ w = w' := by
  obtain ⟨s, sb, f, bb, v, rfl, H⟩ := H
  obtain ⟨r1, r2, r3⟩ := H.blk.rules
  have hlen := H.len
  have hsl := H.sto.le
  have HB : Hid (∀ k, k < Bg.length → w.cell? ⟨bb, k, none⟩ = some (.bool (Bg.getD k false))) := Lib.hid (fun k hk => (H.bg.cell k).trans (bg_at Bg k hk))
  have l1 : Bg.length ≤ 65537 := by omega
  have l2 : 1 ≤ Bg.length := by omega
  clear H hlen hsl
  have N1 := Lib.hid (next_end Bg)
  have N2 := Lib.hid (next_yes Bg)
  have N3 := Lib.hid (next_no Bg)
  generalize nextN Bg = nx at N1 N2 N3 ⊢
  generalize hbl : Bg.length = n at *
  clear hbl
  have pass : ∀ (k : Nat) (u7 u8 u9 u10 u11 u12 u13 u14 u15 u16 u17 u18 u19 u20 u21 u22 u23 u24 : Value), True := fun _ _ _ _ _ _ _ _ _ _ _ _ _ _ _ _ _ _ _ => trivial
  clear pass
  go_enter Try.func22, Try.ntmps22
  go_wp2
  refine wp_scope_jumps 0 (fun a' w' => w' = w ∧ ∃ (k : Nat) (u5 u6 u7 u8 u9 u10 u11 u12 u13 u14 u15 u16 u17 u18 u19 u20 u21 u22 u23 u24 : Value), a' = { tmps := #[.pointer (some ⟨h, 0, none⟩), .int .i64 k, undef, undef, .int .i64 0, u5, u6, u7, u8, u9, u10, u11, u12, u13, u14, u15, u16, u17, u18, u19, u20, u21, u22, u23, u24, undef], defers := [] } ∧ nx k = nx k0 ∧ k < n) (fun a' _ => n - (intOf (a'.tmps.getD 1 undef)).toNat) rfl ?_ ?_
  · skip
    by_cases hlt : k0 + 1 < n
    · have d1 : decide ((n : Int) - 1 ≤ (k0 : Int)) = false := by simp; omega
      have c1 := HB.out (k0 + 1) hlt
      have kk : (k0 : Int) + 1 < (n : Int) := by omega
      cases hb : Bg.getD (k0 + 1) false with
      | true =>
        have E := N2.out k0 hlt hb
        rw [hb] at c1
        have E2 : Hid (nx k0 = k0 + 1) := Lib.hid (by rw [← E])
        clear hb E
        go_wp2
        go_step3
        go_wp2
        simp only [Exit.jump]
        go_ret
        exact ⟨ret_int (by rw [E2.out]; simp), rfl⟩
      | false =>
        have E := N3.out k0 hlt hb
        rw [hb] at c1
        have EQ : nx (k0 + 1) = nx k0 := by rw [← E]
        have HE := Lib.hid EQ
        clear hb E EQ
        go_wp2
        go_step3
        go_wp2
        go_step3
        have EQ := HE.out
        refine ⟨rfl, rfl, k0 + 1, _, _, _, _, _, _, _, _, _, _, _, _, _, _, _, _, _, _, _, _, rfl, EQ, by omega⟩
    · have d1 : decide ((n : Int) - 1 ≤ (k0 : Int)) = true := by simp; omega
      have E := N1.out k0 (by omega)
      have E2 : Hid (nx k0 = 0) := Lib.hid (by rw [← E])
      clear E
      go_wp2
      go_step3
      go_wp2
      simp only [Exit.jump]
      go_ret
      exact ⟨ret_int (by rw [E2.out]; simp), rfl⟩
  · rintro a' w' ⟨rfl, k, u5, u6, u7, u8, u9, u10, u11, u12, u13, u14, u15, u16, u17, u18, u19, u20, u21, u22, u23, u24, rfl, hnx, hkn⟩
    have HNX := Lib.hid hnx
    by_cases hlt : k + 1 < n
    · have d1 : decide ((n : Int) - 1 ≤ (k : Int)) = false := by simp; omega
      have c1 := HB.out (k + 1) hlt
      have kk : (k : Int) + 1 < (n : Int) := by omega
      cases hb : Bg.getD (k + 1) false with
      | true =>
        have E := N2.out k hlt hb
        rw [hb] at c1
        have E2 : Hid (nx k0 = k + 1) := Lib.hid (by rw [← E, hnx])
        clear hb E
        go_wp2
        go_wp2
        simp only [Exit.jump]
        go_ret
        exact ⟨ret_int (by rw [E2.out]; simp), rfl⟩
      | false =>
        have E := N3.out k hlt hb
        rw [hb] at c1
        have EQ : nx (k + 1) = nx k0 := by rw [← E, hnx]
        have HE := Lib.hid EQ
        clear hb E EQ
        go_wp2
        go_wp2
        go_step3
        have EQ := HE.out
        refine ⟨rfl, ⟨rfl, k + 1, _, _, _, _, _, _, _, _, _, _, _, _, _, _, _, _, _, _, _, _, rfl, EQ, by omega⟩, by simp [intOf]; omega⟩
    · have d1 : decide ((n : Int) - 1 ≤ (k : Int)) = true := by simp; omega
      have E := N1.out k (by omega)
      have E2 : Hid (nx k0 = 0) := Lib.hid (by rw [← E, hnx])
      clear E
      go_wp2
      go_wp2
      simp only [Exit.jump]
      go_ret
      exact ⟨ret_int (by rw [E2.out]; simp), rfl⟩
theorem getL_bd {S : List Int} (hw : ∀ x ∈ S, 0 ≤ x ∧ x < 4294967296) (i : Int) : 0 ≤ Store.getL S i ∧ Store.getL S i < 4294967296 := by
  unfold Store.getL
  split
  · rename_i hh
    have hk : i.toNat < S.length := by omega
    have e : S.getD i.toNat 0 = S[i.toNat] := by simp [List.getD, hk]
    rw [e]; exact hw _ (List.getElem_mem hk)
  · omega
abbrev headV (x : Int) : Value := .agg #[.int .i64 (gotS x), .int .i64 (gotF x), .int .i64 (gotO x), .int .i64 (gotC x), .bool (gotI x), .bool (gotL x)]
set_option maxHeartbeats 1000000 in
theorem head (H : Heap w h base o S L Bg) (at_ : Int) (a1 : -1000000 ≤ at_) (a2 : at_ ≤ 1000000) :
    Calls Try.prog 48 #[.pointer (some ⟨h, 0, none⟩), .int .i64 at_] w fun e w' => e = .returned (headV (Store.getL S (at_ - 1))) ∧ Ext w w' := by
  obtain ⟨s, sb, f, bb, v, rfl, H⟩ := H
  obtain ⟨r1, r2, r3⟩ := H.blk.rules
  have HH := Lib.hid H
  obtain ⟨g1, g2⟩ := getL_bd H.wd (at_ - 1)
  clear H
  go_enter Try.func48, Try.ntmps48
  go_wp2_with fail
  refine (Store.get_sto (HH.out.sto.ext ((Ext.refl _).alloc _)) _).mono ?_
  rintro e w1 ⟨rfl, rfl⟩
  generalize hxx : Store.getL S (at_ - 1) = x at *
  have HX := Lib.hid hxx
  clear hxx
  go_wp2_with fail
  refine (Header.get _ _ g1 g2).mono ?_
  rintro e w2 ⟨rfl, x2⟩
  obtain ⟨q1, q2, q3⟩ := ((Blk.new w 64 #[.int .i64 0, .int .i64 0, .int .i64 0, .int .i64 0, .bool false, .bool false]).ext x2).rules
  go_wp2_with fail
  have hge : w.heap.size ≤ w.heap.size := Nat.le_refl _
  refine bodyPost_ret (v := headV x) (by simp [results, Try.results48, go_sem, q1, q3]) rfl ⟨by rw [HX.out], ?_⟩
  exact ((((((((Ext.refl w).alloc _).trans x2).setNew (p := ⟨w.heap.size, 0, none⟩) hge _).setNew (p := ⟨w.heap.size, 1, none⟩) hge _).setNew (p := ⟨w.heap.size, 2, none⟩) hge _).setNew (p := ⟨w.heap.size, 3, none⟩) hge _).setNew (p := ⟨w.heap.size, 4, none⟩) hge _).setNew (p := ⟨w.heap.size, 5, none⟩) hge _
set_option maxHeartbeats 1000000 in
theorem words (H : Heap w h base o S L Bg) : Calls Try.prog 36 #[.pointer (some ⟨h, 0, none⟩)] w fun e w' => e = .returned (.tuple #[.int .i64 ((S.length : Int) - wordsL L), .int .i64 S.length]) ∧ Ext w w' := by
  obtain ⟨s, sb, f, bb, v, rfl, H⟩ := H
  obtain ⟨r1, r2, r3⟩ := H.blk.rules
  have HH := Lib.hid H
  have hsl := H.sto.le
  obtain ⟨b1, b2⟩ := sumTo_bd H.fre.bd L.length (Nat.le_refl _)
  have b3 : 0 ≤ wordsL L := b1
  have b4 : wordsL L ≤ 4600000000 := by have := H.fre.len; unfold wordsL; omega
  clear H b1 b2
  go_enter Try.func36, Try.ntmps36
  go_wp2_with fail
  refine (Store.len_sto HH.out.sto).mono ?_
  rintro e w1 ⟨rfl, rfl⟩
  go_wp2_with fail
  refine (Free.words HH.out.fre).mono ?_
  rintro e w2 ⟨rfl, x2⟩
  go_wp2_with fail
  go_ret2
  exact ⟨rfl, x2⟩
def sizeI (S : List Int) (Bg : List Bool) (at_ : Int) : Int := if hasB Bg at_ then (if gotF (Store.getL S (at_ - 1)) = 3 then gotS (Store.getL S (at_ - 1)) * 4 - gotO (Store.getL S (at_ - 1)) else gotS (Store.getL S (at_ - 1))) else -1
theorem got_bds (x : Int) : 0 ≤ gotS x ∧ gotS x < 65536 ∧ 0 ≤ gotO x ∧ gotO x < 4 ∧ 0 ≤ gotF x ∧ gotF x < 4 := by unfold gotS gotO gotF; omega
set_option maxHeartbeats 1000000 in
theorem size (H : Heap w h base o S L Bg) (at_ : Int) (a1 : -1000000 ≤ at_) (a2 : at_ ≤ 1000000) :
    Calls Try.prog 21 #[.pointer (some ⟨h, 0, none⟩), .int .i64 at_] w fun e w' => e = .returned (.int .i64 (sizeI S Bg at_)) ∧ Ext w w' := by
  have HH := Lib.hid H
  have E : Hid (sizeI S Bg at_ = if hasB Bg at_ then (if gotF (Store.getL S (at_ - 1)) = 3 then gotS (Store.getL S (at_ - 1)) * 4 - gotO (Store.getL S (at_ - 1)) else gotS (Store.getL S (at_ - 1))) else -1) := rfl
  have hhas := Lib.hid (has H at_)
  have hhead := Lib.hid (head H at_ a1 a2)
  obtain ⟨g1, g2, g3, g4, g5, g6⟩ := got_bds (Store.getL S (at_ - 1))
  generalize Store.getL S (at_ - 1) = x at *
  unfold headV at hhead
  generalize gotS x = p at *
  generalize gotO x = q at *
  generalize gotF x = r at *
  clear H
  cases hb : hasB Bg at_ with
  | false =>
    rw [hb] at hhas E
    go_enter Try.func21, Try.ntmps21
    go_wp2_with fail
    refine hhas.out.mono ?_
    rintro e w1 ⟨rfl, rfl⟩
    go_wp2_with fail
    go_ret
    exact ⟨ret_int (by rw [E.out]; rfl), Ext.refl _⟩
  | true =>
    rw [hb] at hhas E
    by_cases h3 : r = 3
    · have d3 : (r == 3) = true := by simpa using h3
      have H3 := Lib.hid h3
      clear h3 hb
      go_enter Try.func21, Try.ntmps21
      go_wp2_with fail
      refine hhas.out.mono ?_
      rintro e w1 ⟨rfl, rfl⟩
      go_wp2_with fail
      refine hhead.out.mono ?_
      rintro e w2 ⟨rfl, x2⟩
      go_wp2_with fail
      go_ret
      exact ⟨ret_int (by rw [E.out, if_pos trivial, if_pos H3.out]), x2.alloc _⟩
    · have d3 : (r == 3) = false := by simpa using h3
      have H3 := Lib.hid h3
      clear h3 hb
      go_enter Try.func21, Try.ntmps21
      go_wp2_with fail
      refine hhas.out.mono ?_
      rintro e w1 ⟨rfl, rfl⟩
      go_wp2_with fail
      refine hhead.out.mono ?_
      rintro e w2 ⟨rfl, x2⟩
      go_wp2_with fail
      go_ret
      exact ⟨ret_int (by rw [E.out, if_pos trivial, if_neg H3.out]), x2.alloc _⟩
theorem setmark_no (H : Heap w h base o S L Bg) (at_ c : Int) (fi : Bool) (hb : hasB Bg at_ = false) :
    Calls Try.prog 19 #[.pointer (some ⟨h, 0, none⟩), .int .i64 at_, .int .i64 c, .bool fi] w fun e w' => e = .returned (.bool false) ∧ w = w' := by
  have hhas := has H at_
  rw [hb] at hhas
  have HH := Lib.hid hhas
  clear hhas H hb
  go_enter Try.func19, Try.ntmps19
  go_wp2_with fail
  refine HH.out.mono ?_
  rintro e w1 ⟨rfl, rfl⟩
  go_wp2_with fail
  go_ret
  exact ⟨rfl, rfl⟩
end
end Go.Proofs.Ytjpalcejmloocaa.Heap
