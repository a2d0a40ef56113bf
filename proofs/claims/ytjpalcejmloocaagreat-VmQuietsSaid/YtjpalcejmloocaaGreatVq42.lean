/-
  Get, as one text (a claim has at most 60 files).
-/
import Derived.Test.YtjpalcejmloocaaGreatVq41
import Derived.Test.YtjpalcejmloocaaGreatVq26
import Derived.Test.YtjpalcejmloocaaGreatVq22
import Derived.Deep.RegionHeld3
import Derived.Deep.RegionHeldLaw
import Derived.Deep.AppendLies
import Derived.Test.YtjpalcejmloocaaGreatVq19
namespace Go.Proofs.YtjpalcejmloocaaGreat.World
open Go.RowKit Go.Proofs.YtjpalcejmloocaaGreat.Plain
set_option linter.unusedVariables false
attribute [local go_sem ↓] Go.wp_at_zero Go.wp_at_succ
def frG (g q2 q4 : Nat) (u : Nat → Value) : Act := { tmps := #[u 0, u 1, .pointer (some ⟨q2, 0, none⟩), u 3, .pointer (some ⟨q4, 0, none⟩), .pointer (some ⟨g, 0, none⟩), u 6, u 7, u 8, u 9, u 10, u 11, u 12, u 13, u 14, u 15, u 16, u 17, u 18, u 19, u 20, u 21, u 22, u 23, u 24, u 25, u 26, u 27, u 28, u 29, u 30, u 31, u 32, u 33, u 34, u 35, u 36, u 37, u 38, u 39, u 40, u 41, u 42, u 43, u 44, u 45, u 46, u 47, u 48, u 49, u 50, u 51, u 52, u 53, u 54, u 55, u 56, u 57, u 58, u 59, u 60, u 61, u 62, u 63, u 64, u 65, u 66, u 67, u 68, u 69, u 70, u 71, u 72, u 73, u 74, u 75, u 76, u 77, u 78, u 79, u 80, u 81, u 82, u 83, u 84, u 85, u 86, u 87, u 88, u 89, u 90, u 91, u 92, u 93, u 94, u 95, u 96, u 97, u 98, u 99, u 100, u 101, u 102, u 103, u 104, u 105, u 106, u 107, u 108, u 109, u 110, u 111, u 112, u 113, u 114, u 115, u 116, u 117, u 118, u 119], defers := [] }
structure RG (w : World) (g q2 q4 : Nat) (sA sB : RdS) (l : List PT) (fs : Nat → Value) (A : Option Addr) (k c : Nat) (t : PT) (L : Nat → Bool) (vF : Value) (s : Nat → Value) (W : World) : Prop where
  dA : L 3 = false → RdAt w W g sA
  dB : L 3 = true → RdAt w W g sB
  b2 : Blk W q2 31 zeroWc
  b4 : L 7 = false → Blk W q4 31 (cellsW (mkG l 0 0 [] [] [] 0) (xG (.slice A k c) fs (.slice none 0 0) (.slice none 0 0) (.slice none 0 0)))
  nw : L 5 = false → NewW W w.heap.size (mkG l 0 0 [] [] [] 0) (xG (.slice A k c) fs (.slice none 0 0) (.slice none 0 0) (.slice none 0 0))
  k4 : L 4 = true → L 3 = true
  k5 : L 5 = true → L 4 = true
  k51 : L 5 = true → L 1 = true
  k7 : L 7 = true → L 5 = true
  p0 : L 0 = true → s 34 = .pointer (some ⟨q4, 0, none⟩)
  l1 : L 1 = true → s 35 = .slice A k c
  m2 : L 2 = true → s 36 = .pointer (some ⟨g, 0, none⟩)
  v3 : L 3 = true → s 37 = .agg (aggT t vF)
  o3 : L 3 = true → L 5 = false → Own W w.heap.size 38 vF t.F.length 2 (cF t.F) ∧ ∀ q, q < l.length → Apart vF (fs q)
  b5 : L 4 = true → L 5 = false → ∃ bb, s 38 = .slice (some ⟨bb, 0, none⟩) 1 1 ∧ Blk W bb 49 (aggT t vF)
  a5 : L 5 = true → ∃ gd cd, s 39 = .slice (some ⟨gd, 0, none⟩) (k + 1) cd ∧ NewW W w.heap.size (mkG (l ++ [t]) 0 0 [] [] [] 0) (xG (.slice (some ⟨gd, 0, none⟩) (k + 1) cd) (fun i => if i = l.length then vF else fs i) (.slice none 0 0) (.slice none 0 0) (.slice none 0 0))
  p6 : L 6 = true → s 40 = .pointer (some ⟨q4, 0, none⟩)
  e7 : L 7 = true → Blk W q4 31 ((cellsW (mkG l 0 0 [] [] [] 0) (xG (.slice A k c) fs (.slice none 0 0) (.slice none 0 0) (.slice none 0 0))).setIfInBounds 0 (s 39))
def frRG (g q2 q4 n k : Nat) (u s : Nat → Value) : Act := { tmps := #[u 0, u 1, .pointer (some ⟨q2, 0, none⟩), u 3, .pointer (some ⟨q4, 0, none⟩), .pointer (some ⟨g, 0, none⟩), u 6, u 7, u 8, u 9, u 10, u 11, u 12, u 13, u 14, u 15, u 16, u 17, u 18, u 19, u 20, u 21, u 22, u 23, u 24, u 25, u 26, u 27, u 28, u 29, u 30, .int .i64 (n : Int), .int .i64 (k : Int), u 33, s 34, s 35, s 36, s 37, s 38, s 39, s 40, u 41, u 42, u 43, u 44, u 45, u 46, u 47, u 48, u 49, u 50, u 51, u 52, u 53, u 54, u 55, u 56, u 57, u 58, u 59, u 60, u 61, u 62, u 63, u 64, u 65, u 66, u 67, u 68, u 69, u 70, u 71, u 72, u 73, u 74, u 75, u 76, u 77, u 78, u 79, u 80, u 81, u 82, u 83, u 84, u 85, u 86, u 87, u 88, u 89, u 90, u 91, u 92, u 93, u 94, u 95, u 96, u 97, u 98, u 99, u 100, u 101, u 102, u 103, u 104, u 105, u 106, u 107, u 108, u 109, u 110, u 111, u 112, u 113, u 114, u 115, u 116, u 117, u 118, u 119], defers := [] }
def RGInv (w : World) (g q2 q4 : Nat) (sA sB : RdS) (l : List PT) (fs : Nat → Value) (A : Option Addr) (k c : Nat) (t : PT) (n : Nat) (u : Nat → Value) (listed : Array Bool) (a : Act) (W : World) : Prop :=
  ∃ L : Nat → Bool, (∀ k, listed.getD k false = L k) ∧ ∃ (vF : Value) (s : Nat → Value), a = frRG g q2 q4 n k u s ∧ listed.size = 8 ∧ RG w g q2 q4 sA sB l fs A k c t L vF s W
structure RX (w : World) (g q2 q4 : Nat) (sA sB : RdS) (l : List PT) (np nf : Int) (re : List Int) (wa : List (Int × Int)) (vL : Value) (fs : Nat → Value) (vr : Value) (A : Option Addr) (j c : Nat) (u : Int × Int) (L : Nat → Bool) (s : Nat → Value) (W : World) : Prop where
  dA : L 5 = false → RdAt w W g sA
  dB : L 5 = true → RdAt w W g sB
  b2 : Blk W q2 31 zeroWc
  b4 : L 12 = false → Blk W q4 31 (cellsW (mkG l np nf re wa [] 0) (xG vL fs vr (.slice A j c) (.slice none 0 0)))
  nw : L 9 = false → NewW W w.heap.size (mkG l np nf re wa [] 0) (xG vL fs vr (.slice A j c) (.slice none 0 0))
  k6 : L 6 = true → L 5 = true
  k7 : L 7 = true → L 6 = true
  k8 : L 8 = true → L 7 = true
  k9 : L 9 = true → L 8 = true
  k92 : L 9 = true → L 2 = true
  k12 : L 12 = true → L 9 = true
  p0 : L 0 = true → s 68 = .pointer (some ⟨q4, 3, none⟩)
  p1 : L 1 = true → s 69 = .pointer (some ⟨q4, 6, none⟩)
  l2 : L 2 = true → s 70 = .slice A j c
  m3 : L 3 = true → s 71 = .int .i64 u.1
  m4 : L 4 = true → s 72 = .pointer (some ⟨g, 0, none⟩)
  v5 : L 5 = true → s 73 = .int .u32 u.2
  c6 : L 6 = true → s 74 = .int .i64 u.2
  b7 : L 7 = true → s 75 = .agg #[.int .i64 u.1, .int .i64 u.2]
  b8 : L 8 = true → L 9 = false → ∃ bb, s 76 = .slice (some ⟨bb, 0, none⟩) 1 1 ∧ Blk W bb 96 #[.int .i64 u.1, .int .i64 u.2]
  a9 : L 9 = true → ∃ gd cd, s 77 = .slice (some ⟨gd, 0, none⟩) (j + 1) cd ∧ NewW W w.heap.size (mkG l np nf re (wa ++ [u]) [] 0) (xG vL fs vr (.slice (some ⟨gd, 0, none⟩) (j + 1) cd) (.slice none 0 0))
  p10 : L 10 = true → s 78 = .pointer (some ⟨q4, 3, none⟩)
  p11 : L 11 = true → s 79 = .pointer (some ⟨q4, 6, none⟩)
  e12 : L 12 = true → Blk W q4 31 ((cellsW (mkG l np nf re wa [] 0) (xG vL fs vr (.slice A j c) (.slice none 0 0))).setIfInBounds 6 (s 77))
def frRX (g q2 q4 m j : Nat) (u : Int × Int) (u0 s : Nat → Value) : Act := { tmps := #[u0 0, u0 1, .pointer (some ⟨q2, 0, none⟩), u0 3, .pointer (some ⟨q4, 0, none⟩), .pointer (some ⟨g, 0, none⟩), u0 6, .int .i64 u.1, u0 8, u0 9, u0 10, u0 11, u0 12, u0 13, u0 14, u0 15, u0 16, u0 17, u0 18, u0 19, u0 20, u0 21, u0 22, u0 23, u0 24, u0 25, u0 26, u0 27, u0 28, u0 29, u0 30, u0 31, u0 32, u0 33, u0 34, u0 35, u0 36, u0 37, u0 38, u0 39, u0 40, u0 41, u0 42, u0 43, u0 44, u0 45, u0 46, u0 47, u0 48, u0 49, u0 50, u0 51, u0 52, u0 53, u0 54, u0 55, u0 56, u0 57, u0 58, u0 59, u0 60, u0 61, .int .i64 (m : Int), .int .i64 (j : Int), u0 64, u0 65, u0 66, u0 67, s 68, s 69, s 70, s 71, s 72, s 73, s 74, s 75, s 76, s 77, s 78, s 79, u0 80, u0 81, u0 82, u0 83, u0 84, u0 85, u0 86, u0 87, u0 88, u0 89, u0 90, u0 91, u0 92, u0 93, u0 94, u0 95, u0 96, u0 97, u0 98, u0 99, u0 100, u0 101, u0 102, u0 103, u0 104, u0 105, u0 106, u0 107, u0 108, u0 109, u0 110, u0 111, u0 112, u0 113, u0 114, u0 115, u0 116, u0 117, u0 118, u0 119], defers := [] }
def RXInv (w : World) (g q2 q4 : Nat) (sA sB : RdS) (l : List PT) (np nf : Int) (re : List Int) (wa : List (Int × Int)) (vL : Value) (fs : Nat → Value) (vr : Value) (A : Option Addr) (j c : Nat) (u : Int × Int) (m : Nat) (u0 : Nat → Value) (listed : Array Bool) (a : Act) (W : World) : Prop :=
  ∃ L : Nat → Bool, (∀ k, listed.getD k false = L k) ∧ ∃ s : Nat → Value, a = frRX g q2 q4 m j u u0 s ∧ listed.size = 13 ∧ RX w g q2 q4 sA sB l np nf re wa vL fs vr A j c u L s W
theorem jump_act {Q : Exit → Act → World → Prop} {ex : Exit} {a : Act} {w : World} (h : ∀ A, A = a → Q ex A w) : Q ex a w := h a rfl
theorem then_act {K : Act → World → Prop} {Q : Exit → Act → World → Prop} {ex : Exit} {a : Act} {w : World} (h : ∀ A, A = a → Exit.then K Q ex A w) : Exit.then K Q ex a w := h a rfl
/-- what is known at the label: what is wrong, or the world that was read -/
structure GE (w : World) (b : List Int) (g q2 q4 : Nat) (s : RdS) (cs : Array Value) (W : World) : Prop where
  B : GB w g q2 q4 s cs W
  q : GQ w g q2 q4
  no : s.e ≠ 0 → getS b = (s.e, none)
  yes : s.e = 0 → ∃ Wp x, getS b = (0, some Wp) ∧ cs = cellsW Wp x ∧ NewW W w.heap.size Wp x
theorem ge_end {w W : World} {b : List Int} {g q2 q4 : Nat} {s : RdS} {Wp : PW} {x : WV} (G : GW w g q2 q4 s Wp x W) (t : GQ w g q2 q4) (h : getS b = if s.e = 0 then (0, some Wp) else (s.e, none)) : GE w b g q2 q4 s (cellsW Wp x) W :=
  ⟨G.B, t, fun e => by rw [h, if_neg e], fun e => ⟨Wp, x, by rw [h, if_pos e], rfl, G.N⟩⟩
def PostG (w : World) (b : List Int) (e : Ending) (w' : World) : Prop :=
  ∃ cs, e = .returned (.tuple #[.agg cs, .int .i64 (getS b).1]) ∧ ((getS b).2 = none → cs = zeroWc) ∧ (∀ W, (getS b).2 = some W → ∃ x, cs = cellsW W x ∧ NewW w' w.heap.size W x) ∧ Ext w w'
theorem magic_eq {l : List Int} (h : okB l) (t : ByteArray) : ((strI l).toList == t.toList) = decide (l = bytesI t) := by
  by_cases e : l = bytesI t
  · rw [e, strI_bytes]; simp
  · have hne : ¬ (strI l).toList = t.toList := fun q => e (by
      have q2 : strI l = t := by
        rw [ByteArray.toList_eq, ByteArray.toList_eq] at q
        exact ByteArray.ext (Array.toList_inj.1 q)
      rw [← q2, bytesI_str _ l rfl h])
    simp [e, hne]
theorem magic_k {b : List Int} (h : okB b) {k : Nat} (hk : k = 1 ∨ k = 2 ∨ k = 3) : (!(strI (b.take k)).toList == ((⟨#[67, 81, 49]⟩ : ByteArray).extract 0 k).toList) = decide (b.take k ≠ magicL.take k) := by
  rw [magic_eq (fun x hx => h x (List.mem_of_mem_take hx))]
  have e : bytesI ((⟨#[67, 81, 49]⟩ : ByteArray).extract 0 k) = magicL.take k := by
    rcases hk with rfl | rfl | rfl <;> decide
  rw [e]
  by_cases q : b.take k = magicL.take k <;> simp [q]
section
variable {w : World}
set_option maxRecDepth 100000 in
set_option maxHeartbeats 8000000 in
theorem getW {v : Value} {b : List Int} (h : Row w v b.length 1 (cU b)) (hb : okB b) (hn : b.length ≤ 9000000000000000000) : Calls Tryz.prog 44 #[v] w fun e w' => PostG w b e w' := by
  obtain ⟨A, c, ev, lc, lm⟩ := Row.form h
  subst ev
  have HR := Lib.hid h
  have HB := Lib.hid hb
  clear h hb
  generalize hm : b.length = m at *
  have HM := Lib.hid hm
  clear hm
  go_enter Tryz.func44, Tryz.ntmps44
  go_wp2_with fail
  refine wp_scope_enter 0 (fun a' W => ∃ (g q2 q4 : Nat) (s : RdS) (cs : Array Value) (u : Nat → Value), GE w b g q2 q4 s cs W ∧ a' = frG g q2 q4 u) (fun _ _ => 0) rfl ?_ ?_
  rotate_left
  · intro KL0
    have KL := Lib.hid KL0
    clear KL0
    obtain ⟨mn, hmn⟩ : ∃ mn, min m 3 = mn := ⟨_, rfl⟩
    have hm3 : mn ≤ 3 ∧ mn ≤ m := by omega
    have hmi : (if (3 : Int) < (m : Int) then 3 else (m : Int)) = (mn : Int) := by split <;> omega
    have HMN := Lib.hid hmn
    clear hmn
    go_upto_region 4 with (fail)
    refine wp_name (fun w1 hw => ?_)
    have B2 : Blk w1 w.heap.size 31 zeroWc := by rw [hw]; exact ((Blk.new w _ _).alloc _).alloc _
    have B4 : Blk w1 (w.heap.size + 1) 31 zeroWc := by rw [hw]; exact (Blk.after w _ _ _).alloc _
    have BG : Blk w1 (w.heap.size + 1 + 1) 124 #[.slice A m c, .int .i64 0] := by
      have q := Blk.new ((w.alloc (.cells zeroWc 31)).alloc (.cells zeroWc 31)) 124 #[.slice A m c, .int .i64 0]
      rw [World.size_alloc, World.size_alloc] at q
      rw [hw]; exact q
    have x1 : Ext w w1 := by rw [hw]; exact (((Ext.refl w).alloc _).alloc _).alloc _
    have hq : GQ w (w.heap.size + 1 + 1) w.heap.size (w.heap.size + 1) := ⟨by omega, by omega, by omega, by omega, by omega⟩
    have HR2 := HR.out
    rw [← HM.out] at HR2
    have G1 : Hid (GB w (w.heap.size + 1 + 1) w.heap.size (w.heap.size + 1) ⟨b, 0⟩ zeroWc w1) := Lib.hid ⟨⟨⟨_, BG, by rw [HM.out]; exact HR.out⟩, x1, by omega⟩, B2, B4⟩
    have GQH := Lib.hid hq
    have CW := Lib.hid (fun W2 (d : RdAt w W2 (w.heap.size + 1 + 1) ⟨b, 0⟩) => wrong_ d 2)
    have CW4 := Lib.hid (fun W2 (d : RdAt w W2 (w.heap.size + 1 + 1) ⟨b, 0⟩) => wrong_ d 4)
    clear hw B2 B4 BG x1 hq HR2
    generalize hgg : w.heap.size + 1 + 1 = g at *
    generalize hq4 : w.heap.size + 1 = q4 at *
    generalize hq2 : w.heap.size = q2 at *
    have Q2 := Lib.hid hq2
    clear hgg hq4 hq2
    by_cases hbig : 65536 < m
    · have hbI : (65536 : Int) < (m : Int) := by omega
      have ES : Hid (getS b = (2, none)) := Lib.hid (by unfold getS; rw [HM.out, if_pos hbig])
      go_wp2_with (go_at_call 68; refine (CW.out _ G1.out.d).mono ?_; rintro e w2 ⟨rfl, hd, k2⟩; have G2 := Lib.hid (G1.out.call GQH.out hd k2); clear hd k2)
      go_step3
      refine then_act (fun A' hA => ?_)
      exact ⟨rfl, g, q2, q4, wrongR 2 ⟨b, 0⟩, zeroWc, fun q => A'.tmps.getD q undef, ⟨G2.out, GQH.out, fun _ => ES.out, fun h => absurd h (by show ¬ (2 : Int) = 0; decide)⟩, by rw [hA]; rfl⟩
    · have hbI : ¬ (65536 : Int) < (m : Int) := by omega
      have hm6 : m ≤ 65536 := by omega
      obtain ⟨nb, hnb⟩ : ∃ nb, decide (b.take mn ≠ magicL.take mn) = nb := ⟨_, rfl⟩
      have HNB := Lib.hid hnb
      have hcv : ∀ y, (convert 79 9 (.slice A mn c)).run Tryz.prog (ext w1 y) = .ok (.string (strI (b.take mn))) (ext w1 y) := fun y =>
        conv_str (Row.ext (row_take (by rw [HM.out]; exact HR.out) (by rw [HM.out]; omega)) (G1.out.d.x.ext y))
      have mI : (mn : Int) ≤ (m : Int) := by omega
      have m3I : (mn : Int) ≤ 3 := by omega
      have hml := hm3.2
      go_upto_region 6 with (fail)
      go_cut [25] from 19 to 24 (fun v25 wx => v25 = .bool nb ∧ Ext w1 wx)
      case first =>
        rcases (show mn = 0 ∨ mn = 1 ∨ mn = 2 ∨ mn = 3 by omega) with rfl | rfl | rfl | rfl
        all_goals
          refine wp_region_ext (by kernel_rfl) (by kernel_rfl) ?_
          repeat (go_big_quiet_step (fail))
          refine wpQuiet_nil ?_
          rintro W3 ⟨xx, hx⟩
          go_wp2_with fail
          go_meet
          refine ⟨?_, ⟨xx, rfl⟩⟩
          rw [← HNB.out]
        · show Value.bool (!(strI []).toList.isEmpty) = Value.bool (decide (b.take 0 ≠ magicL.take 0))
          simp [strI]
        · exact congrArg Value.bool (magic_k HB.out (Or.inl rfl))
        · exact congrArg Value.bool (magic_k HB.out (Or.inr (Or.inl rfl)))
        · exact congrArg Value.bool (magic_k HB.out (Or.inr (Or.inr rfl)))
      case rest =>
        obtain ⟨rfl, xc⟩ := hcut
        have GC : Hid (GB w g q2 q4 ⟨b, 0⟩ zeroWc wc) := Lib.hid (G1.out.ext xc)
        clear xc hcv hnb G1
        cases nb with
        | true =>
          have ES : Hid (getS b = (4, none)) := Lib.hid (by unfold getS; rw [HM.out, if_neg hbig, HMN.out, if_pos (of_decide_eq_true HNB.out)])
          go_wp2_with (go_at_call 68; refine (CW4.out _ (GC.out.d.ext (is_ext _ _))).mono ?_; rintro e w2 ⟨rfl, hd, k2⟩; have G2 := Lib.hid ((GC.out.ext (is_ext _ _)).call GQH.out hd k2); clear hd k2)
          go_step3
          refine then_act (fun A' hA => ?_)
          exact ⟨rfl, g, q2, q4, wrongR 4 ⟨b, 0⟩, zeroWc, fun q => A'.tmps.getD q undef, ⟨G2.out, GQH.out, fun _ => ES.out, fun h => absurd h (by show ¬ (4 : Int) = 0; decide)⟩, by rw [hA]; rfl⟩
        | false =>
          have eb : b.take mn = magicL.take mn := Decidable.not_not.1 (of_decide_eq_false HNB.out)
          have EG : Hid (getS b = if (allG (takeR 3 ⟨b, 0⟩).2).2.e = 0 then (0, some (allG (takeR 3 ⟨b, 0⟩).2).1) else ((allG (takeR 3 ⟨b, 0⟩).2).2.e, none)) := Lib.hid (by unfold getS; rw [HM.out, if_neg hbig, HMN.out, if_neg (fun h => h eb)])
          have o1 : okB (takeR 3 ⟨b, 0⟩).2.b := (okB_take (n := 3) HB.out).2
          have l1 : (takeR 3 ⟨b, 0⟩).2.b.length ≤ 65536 := Nat.le_trans (take_short 3 _) (by show b.length ≤ 65536; rw [HM.out]; exact hm6)
          have CT := Lib.hid (fun W2 (d : RdAt w W2 g ⟨b, 0⟩) => take_ d 3 (by decide))
          clear eb CW CW4 HNB HMN hml m3I mI hm3
          generalize (takeR 3 ⟨b, 0⟩).2 = s1 at *
          have EA := Lib.hid (fun k => @all_wrong s1 k)
          have ER : Hid (allG s1 = ((regsG (thsR (countR 1 s1).1.toNat (countR 1 s1).2).1 (thsR (countR 1 s1).1.toNat (countR 1 s1).2).2).1, seenR (regsG (thsR (countR 1 s1).1.toNat (countR 1 s1).2).1 (thsR (countR 1 s1).1.toNat (countR 1 s1).2).2).1 (overR (regsG (thsR (countR 1 s1).1.toNat (countR 1 s1).2).1 (thsR (countR 1 s1).1.toNat (countR 1 s1).2).2).2))) := Lib.hid rfl
          have CC := Lib.hid (fun W2 (d : RdAt w W2 g s1) => rcount_ d o1 1 (by omega) (by omega))
          obtain ⟨n0, n1⟩ := countR_in (each := 1) o1
          have hle := count_le (each := 1) (by omega) s1
          have hsh := count_short 1 s1
          have O2 := Lib.hid (okB_count (each := 1) o1)
          obtain ⟨n, hn⟩ := Int.eq_ofNat_of_zero_le n0
          rw [hn] at CC ER EA hle
          rw [Int.toNat_natCast] at ER EA
          have hn1 : n ≤ 65536 := by omega
          have L2 : Hid ((countR 1 s1).2.b.length ≤ 65536) := Lib.hid (by omega)
          clear hn n0 n1 hle hsh o1 l1
          generalize allG s1 = al at *
          generalize (countR 1 s1).2 = s2 at *
          have n24 : q2 ≠ q4 := GQH.out.n24
          have n42 : q4 ≠ q2 := fun e => n24 e.symm
          have n2g : q2 ≠ g := GQH.out.n2g
          have n4g : q4 ≠ g := GQH.out.n4g
          have ng2 : g ≠ q2 := fun e => n2g e.symm
          have ng4 : g ≠ q4 := fun e => n4g e.symm
          obtain ⟨iT, hT, hT0, hT1, hT2⟩ := info_parts infoT
          have h4w := GQH.out.h4
          go_upto_region 9 with (go_at_call 69; refine (CT.out _ (GC.out.d.ext (is_ext _ _))).mono ?_; rintro e w2 ⟨v, rfl, hr, hd, k2⟩; have G2 := Lib.hid ((GC.out.ext (is_ext _ _)).call GQH.out hd k2); clear hr hd k2)
          go_upto_region 10 with (go_at_call 70; refine (CC.out _ (G2.out.d.ext (is_ext _ _))).mono ?_; rintro e w3 ⟨rfl, hd, k3⟩; have G3 := Lib.hid ((G2.out.ext (is_ext _ _)).call GQH.out hd k3); clear hd k3)
          go_loopw [32] (fun iv wr => ∃ k : Nat, k ≤ n ∧ iv = .int .i64 k ∧ ∃ A c fs, GW w g q2 q4 (thsR k s2).2 (mkG (thsR k s2).1 0 0 [] [] [] 0) (xG (.slice A k c) fs (.slice none 0 0) (.slice none 0 0) (.slice none 0 0)) wr) (fun iv _ => n - (intOf iv).toNat)
          case atStart => exact ⟨0, Nat.zero_le _, rfl, none, 0, fun _ => .slice none 0 0, G3.out, NewW.zero _ _ _⟩
          case round =>
            clear GC G2 G3 CC CT
            obtain ⟨k, hk, rfl, A, c, fs, G⟩ := hrel
            have GH := Lib.hid G
            by_cases hlt : k < n
            · have kI : (k : Int) < (n : Int) := by omega
              have os : okB (thsR k s2).2.b := okB_ths k O2.out
              have ls : (thsR k s2).2.b.length ≤ 65536 := Nat.le_trans (ths_short k s2) L2.out
              have CV := Lib.hid (fun W2 (d : RdAt w W2 g (thsR k s2).2) => thing_r d os (by omega))
              have TN := Lib.hid (thing64 os (by omega))
              have LK := Lib.hid (ths_len k s2)
              have EN : Hid (thsR (k + 1) s2 = ((thsR k s2).1 ++ [(thingR (thsR k s2).2).1], (thingR (thsR k s2).2).2)) := Lib.hid rfl
              clear os ls G
              generalize (thingR (thsR k s2).2).2 = s7 at *
              generalize (thingR (thsR k s2).2).1 = t at *
              obtain ⟨l, hl⟩ : ∃ l, (thsR k s2).1 = l := ⟨_, rfl⟩
              rw [hl] at LK EN GH
              clear hl
              generalize (thsR k s2).2 = sk at *
              go_upto_region 11 with (fail)
              refine wp_any_act (fun A' hA => ?_)
              have eA : A' = frRG g q2 q4 n k (fun q => A'.tmps.getD q undef) (fun q => A'.tmps.getD q undef) := by rw [hA]; rfl
              obtain ⟨uu, huu⟩ : ∃ uu, (fun q => A'.tmps.getD q undef) = uu := ⟨_, rfl⟩
              rw [huu] at eA
              rw [hA] at huu
              have HU := Lib.hid huu
              clear hA huu
              subst eA
              refine wp_region_inv (Inv := RGInv w g q2 q4 sk s7 l fs A k c t n uu) (by kernel_rfl) ?_ ?_ ?_
              · refine ⟨fun _ => false, fun k => ?_, undef, uu, rfl, by simp, ⟨fun _ => GH.out.B.d.ext ((Ext.refl _).drew), ?_, GH.out.B.b2.drew, fun _ => GH.out.B.b4.drew, fun _ => GH.out.N.ext ((Ext.refl _).drew), ?_, ?_, ?_, ?_, ?_, ?_, ?_, ?_, ?_, ?_, ?_, ?_, ?_⟩⟩
                · rw [Array.getD_eq_getD_getElem?, Array.getElem?_replicate]; split <;> rfl
                all_goals (intro h; cases h)
              · rintro listed act W ii ⟨L, hL, vF, s, rfl, hsz, I⟩ hi
                obtain ⟨hlt', hnot, hdep⟩ := (ready_iff _ _).1 hi
                have hi8 : ii < 8 := hlt'
                have cases8 : ii = 0 ∨ ii = 1 ∨ ii = 2 ∨ ii = 3 ∨ ii = 4 ∨ ii = 5 ∨ ii = 6 ∨ ii = 7 := by omega
                have hn0 : L ii = false := by rw [← hL ii]; exact not_bit hnot
                clear hi hlt' hi8 hnot
                unfold frRG
                rcases cases8 with rfl | rfl | rfl | rfl | rfl | rfl | rfl | rfl
                · -- operation 0
                  refine wpOp_step rfl (fun K' hK => ?_)
                  go_simp
                  exact hK _ _ ⟨_, bit_set hL hsz 0 (by omega), vF, fun jx => if jx = 34 then .pointer (some ⟨q4, 0, none⟩) else s jx, by first | (simp [frRG]; done) | (simp [frRG]; rfl), by simpa using hsz, ⟨I.dA, I.dB, I.b2, I.b4, I.nw, I.k4, I.k5, I.k51, I.k7, fun _ => rfl, I.l1, I.m2, I.v3, I.o3, I.b5, I.a5, I.p6, I.e7⟩⟩
                · -- operation 1
                  simp [hL, Region.binds] at hdep
                  have d0 : L 0 = true := by simp [hdep]
                  have es := I.p0 d0
                  have n5 : L 5 = false := by cases hh5 : L 5 with | false => rfl | true => exact (by rw [I.k51 hh5] at hn0; cases hn0)
                  have n7 : L 7 = false := by cases hh7 : L 7 with | false => rfl | true => exact (by rw [I.k7 hh7] at n5; cases n5)
                  have hc : W.cell? ⟨q4, 0, none⟩ = some (.slice A k c) := (I.b4 n7).cell 0
                  have hlc := (I.b4 n7).lt
                  refine wpOp_step rfl (fun K' hK => ?_)
                  rw [es]
                  go_simp
                  exact hK _ _ ⟨_, bit_set hL hsz 1 (by omega), vF, fun jx => if jx = 35 then .slice A k c else s jx, by first | (simp [frRG, es]; done) | (simp [frRG, es]; rfl), by simpa using hsz, ⟨I.dA, I.dB, I.b2, I.b4, I.nw, I.k4, I.k5, fun _ => rfl, I.k7, I.p0, fun _ => rfl, I.m2, I.v3, I.o3, I.b5, I.a5, I.p6, I.e7⟩⟩
                · -- operation 2
                  refine wpOp_step rfl (fun K' hK => ?_)
                  go_simp
                  exact hK _ _ ⟨_, bit_set hL hsz 2 (by omega), vF, fun jx => if jx = 36 then .pointer (some ⟨g, 0, none⟩) else s jx, by first | (simp [frRG]; done) | (simp [frRG]; rfl), by simpa using hsz, ⟨I.dA, I.dB, I.b2, I.b4, I.nw, I.k4, I.k5, I.k51, I.k7, I.p0, I.l1, fun _ => rfl, I.v3, I.o3, I.b5, I.a5, I.p6, I.e7⟩⟩
                · -- operation 3
                  simp [hL, Region.binds] at hdep
                  have d2 : L 2 = true := by simp [hdep]
                  have es := I.m2 d2
                  have n4 : L 4 = false := by cases hh4 : L 4 with | false => rfl | true => exact (by rw [I.k4 hh4] at hn0; cases hn0)
                  have n5 : L 5 = false := by cases hh5 : L 5 with | false => rfl | true => exact (by rw [I.k5 hh5] at n4; cases n4)
                  have n7 : L 7 = false := by cases hh7 : L 7 with | false => rfl | true => exact (by rw [I.k7 hh7] at n5; cases n5)
                  refine wpOp_step rfl (fun K' hK => ?_)
                  rw [es]
                  go_simp
                  refine (CV.out _ (I.dA hn0)).mono ?_
                  rintro e w9 ⟨vF9, rfl, ho, hd, k9⟩
                  obtain ⟨vb, bb, _⟩ := (I.dA hn0).ex
                  have NN := I.nw n5
                  have kt9 : KT [124] W w9 := Keep.mono k9 (fun j e => by subst e; exact ⟨_, _, by simp, bb⟩)
                  exact hK _ _ ⟨_, bit_set hL hsz 3 (by omega), vF9, fun jx => if jx = 37 then .agg (aggT t vF9) else s jx, by first | (simp [frRG, es]; done) | (simp [frRG, es]; rfl), by simpa using hsz, ⟨(fun h => absurd h (by simp)), (fun _ => hd), I.b2.keep k9 n2g, (fun h => (I.b4 h).keep k9 n4g), (fun _ => NN.kt kt9 (by decide) (by decide) (by decide) (by decide) (by decide) (by decide)), fun _ => rfl, I.k5, I.k51, I.k7, I.p0, I.l1, I.m2, fun _ => rfl, (fun _ _ => ⟨ho.base (I.dA hn0).x.below.size, fun q hq => Own.apart ho (NN.fs q hq)⟩), (fun h => absurd (show L 4 = true from h) (by rw [n4]; decide)), (fun h => absurd (show L 5 = true from h) (by rw [n5]; decide)), I.p6, (fun h => absurd (show L 7 = true from h) (by rw [n7]; decide))⟩⟩
                · -- operation 4
                  simp [hL, Region.binds] at hdep
                  have d3 : L 3 = true := by simp [hdep]
                  have es := I.v3 d3
                  have n5 : L 5 = false := by cases hh5 : L 5 with | false => rfl | true => exact (by rw [I.k5 hh5] at hn0; cases hn0)
                  have n7 : L 7 = false := by cases hh7 : L 7 with | false => rfl | true => exact (by rw [I.k7 hh7] at n5; cases n5)
                  have xA := (Ext.refl W).alloc (.cells (aggT t vF) 49)
                  refine wpOp_step rfl (fun K' hK => ?_)
                  rw [es]
                  unfold aggT
                  go_simp
                  exact hK _ _ ⟨_, bit_set hL hsz 4 (by omega), vF, fun jx => if jx = 38 then .slice (some ⟨W.heap.size, 0, none⟩) 1 1 else s jx, by first | (simp [frRG, es]; done) | (simp [frRG, es]; rfl), by simpa using hsz, ⟨(fun h => (I.dA h).ext xA), (fun h => (I.dB h).ext xA), I.b2.ext xA, (fun h => (I.b4 h).ext xA), (fun h => (I.nw h).ext xA), fun _ => d3, fun _ => rfl, I.k51, I.k7, I.p0, I.l1, I.m2, I.v3, (fun _ h => ⟨(I.o3 d3 h).1.ext xA, (I.o3 d3 h).2⟩), (fun _ _ => ⟨_, rfl, Blk.new _ _ _⟩), (fun h => absurd (show L 5 = true from h) (by rw [n5]; decide)), I.p6, (fun h => absurd (show L 7 = true from h) (by rw [n7]; decide))⟩⟩
                · -- operation 5
                  simp [hL, Region.binds] at hdep
                  have d1 : L 1 = true := by simp [hdep]
                  have d4 : L 4 = true := by simp [hdep]
                  have e1 := I.l1 d1
                  obtain ⟨bb, e4, hbb⟩ := I.b5 d4 hn0
                  have NN := I.nw hn0
                  have d3 := I.k4 d4
                  have o3 := I.o3 d3 hn0
                  obtain ⟨AV, cV', eV⟩ := Own.form o3.1
                  have OO : Own W w.heap.size 49 (.slice A k c) k 6 (cL l fs) := by have q := NN.L; have e : (mkG l 0 0 [] [] [] 0).L.length = k := LK.out; rw [e] at q; exact q
                  refine wpOp_step rfl (fun K' hK => ?_)
                  rw [e1, e4]
                  refine step_append_lies _ (by rfl) (.tmp 35) (.tmp 38) 23 (by rfl) w.heap.size 49 iT (.agg #[.int .i64 0, .int .i64 0, .int .i64 0, .bool false, .slice none 0 0, .string ByteArray.empty]) 6 72 Tryz.underlying23 hT hT0 hT1 hT2 rfl (by decide) (.slice A k c) k (flat k 6 (cL l fs)) (by rfl) OO ⟨bb, 0, none⟩ 1 1 [.int .i64 t.cls, .int .i64 t.fmt, .int .i64 t.hash, .bool t.fin, vF, .string t.B] (by rfl) (by rfl) (World.news_of_block hbb) (by rw [eV]; simp [Value.oneCell']) (by omega) (by unfold maxLen; omega) (by omega) (by have := I.b2.lt; have := GQH.out.h2; omega) W.heap.size rfl ?_
                  intro gd cd w10 o10 g10 hat hlt10
                  have KG : Keep (fun j => Value.ownBlock (.slice A k c) = some j) W w10 := ⟨g10.os, g10.tape, g10.output, g10.size, fun k hk hn => g10.block k hk (fun e => hn e.symm)⟩
                  have nT : ∀ {b : Nat} {cs : Array Value}, Blk W b 31 cs → ¬ Value.ownBlock (.slice A k c) = some b := fun hb e => by obtain ⟨_, c, h'⟩ := OO.block e; exact (hb.ne h' (by decide)) rfl
                  have nR : ∀ {s : RdS}, RdAt w W g s → RdAt w w10 g s := fun d => d.grow KG (fun e => by obtain ⟨_, c, h'⟩ := OO.block e; obtain ⟨_, b, _⟩ := d.ex; exact (b.ne h' (by decide)) rfl) (fun j e => (OO.block e).1)
                  have o11 : w10.ownsRow w.heap.size 49 6 (.slice (some ⟨gd, 0, none⟩) (k + 1) cd) ((mkG l 0 0 [] [] [] 0).L.length + 1) (flat (mkG l 0 0 [] [] [] 0).L.length 6 (cL l fs) ++ [.int .i64 t.cls, .int .i64 t.fmt, .int .i64 t.hash, .bool t.fin, vF, .string t.B]) := by
                    show w10.ownsRow _ _ _ _ (l.length + 1) (flat l.length 6 _ ++ _)
                    rw [LK.out]; exact o10
                  have NP := NewW.push NN KG o11 o3.1 o3.2 TN.out
                  refine hK _ _ ⟨_, bit_set hL hsz 5 (by omega), vF, fun jx => if jx = 39 then .slice (some ⟨gd, 0, none⟩) (k + 1) cd else s jx, by first | (simp [frRG, e1, e4, Act.put]; done) | (simp [frRG, e1, e4, Act.put]; rfl), by simpa using hsz, ⟨(fun h => nR (I.dA h)), (fun h => nR (I.dB h)), I.b2.keep KG (nT I.b2), (fun h => (I.b4 h).keep KG (nT (I.b4 h))), (fun h => absurd h (by simp)), I.k4, fun _ => d4, fun _ => d1, fun _ => rfl, I.p0, I.l1, I.m2, I.v3, (fun _ h => absurd h (by simp)), (fun _ h => absurd h (by simp)), (fun _ => ⟨gd, cd, rfl, NP⟩), I.p6, (fun h => absurd (show L 7 = true from h) (by cases hh7 : L 7 with | false => decide | true => exact (by rw [I.k7 hh7] at hn0; cases hn0)))⟩⟩
                · -- operation 6
                  refine wpOp_step rfl (fun K' hK => ?_)
                  go_simp
                  exact hK _ _ ⟨_, bit_set hL hsz 6 (by omega), vF, fun jx => if jx = 40 then .pointer (some ⟨q4, 0, none⟩) else s jx, by first | (simp [frRG]; done) | (simp [frRG]; rfl), by simpa using hsz, ⟨I.dA, I.dB, I.b2, I.b4, I.nw, I.k4, I.k5, I.k51, I.k7, I.p0, I.l1, I.m2, I.v3, I.o3, I.b5, I.a5, fun _ => rfl, I.e7⟩⟩
                · -- operation 7
                  simp [hL, Region.binds] at hdep
                  have d5 : L 5 = true := by simp [hdep]
                  have d6 : L 6 = true := by simp [hdep]
                  have e6 := I.p6 d6
                  obtain ⟨gd, cd, e5, N5⟩ := I.a5 d5
                  have B4 := I.b4 hn0
                  have hc : W.cell? ⟨q4, 0, none⟩ = some (.slice A k c) := B4.cell 0
                  have hlc := B4.lt
                  have hfc := B4.frozen
                  refine wpOp_step rfl (fun K' hK => ?_)
                  rw [e5, e6]
                  go_simp
                  have KTs := kt_set B4 0 (.slice (some ⟨gd, 0, none⟩) (k + 1) cd)
                  exact hK _ _ ⟨_, bit_set hL hsz 7 (by omega), vF, s, by first | (simp [frRG, e5, e6]; done) | (simp [frRG, e5, e6]; rfl), by simpa using hsz, ⟨(fun h => (I.dA h).far n4g h4w 0 _), (fun h => (I.dB h).far n4g h4w 0 _), I.b2.far (p := ⟨q4, 0, none⟩) n24 _, (fun h => absurd h (by simp)), (fun h => absurd (show L 5 = false from h) (by rw [d5]; decide)), I.k4, I.k5, I.k51, fun _ => d5, I.p0, I.l1, I.m2, I.v3, (fun _ h => absurd (show L 5 = false from h) (by rw [d5]; decide)), (fun _ h => absurd (show L 5 = false from h) (by rw [d5]; decide)), (fun _ => ⟨gd, cd, e5, N5.kt KTs (by decide) (by decide) (by decide) (by decide) (by decide) (by decide)⟩), I.p6, (fun _ => by rw [e5]; exact B4.set 0 _)⟩⟩
              · rintro listed act W ⟨L, hL, vF, s, rfl, hsz, I⟩ hr
                have ALL : ∀ i, i < 8 → L i = true := fun i hi => by rw [← hL i]; exact all_listed (by kernel_rfl) hsz hr i hi
                obtain ⟨gd, cd, e5, N5⟩ := I.a5 (ALL 5 (by omega))
                have B4 := I.e7 (ALL 7 (by omega))
                rw [e5] at B4
                have T11 : Hid (GW w g q2 q4 s7 (mkG (l ++ [t]) 0 0 [] [] [] 0) (xG (.slice (some ⟨gd, 0, none⟩) (k + 1) cd) (fun i => if i = l.length then vF else fs i) (.slice none 0 0) (.slice none 0 0) (.slice none 0 0)) W) := Lib.hid ⟨⟨I.dB (ALL 3 (by omega)), I.b2, B4⟩, N5⟩
                unfold frRG
                dsimp only
                rw [← HU.out]
                simp only [Array.getD_eq_getD_getElem?, List.getElem?_toArray, List.getElem?_cons_zero, List.getElem?_cons_succ, Option.getD_some]
                clear hL ALL HU hr hsz I e5 N5 B4 GH CV TN
                obtain ⟨vb, bb, _⟩ := T11.out.B.d.ex
                have c1 : W.cell? ⟨g, 1, none⟩ = some (.int .i64 s7.e) := bb.cell 1
                have hgl := bb.lt
                clear bb
                by_cases he : s7.e = 0
                · have e1 : (s7.e != 0) = false := by simp [he]
                  clear he
                  go_wp2_with fail
                  go_roundw
                  case rel => exact ⟨k + 1, by omega, by go_num, some ⟨gd, 0, none⟩, cd, _, by rw [EN.out]; exact T11.out⟩
                  case measure => simp [intOf] <;> omega
                · have e1 : (s7.e != 0) = true := by simp [he]
                  have ES : Hid (getS b = (s7.e, none)) := Lib.hid (by
                    have q := EA.out (k + 1) (by omega) (by rw [EN.out]; exact he)
                    rw [EN.out] at q
                    rw [EG.out, q, if_neg he])
                  have HE := Lib.hid he
                  clear he
                  go_wp2_with fail
                  go_step3
                  refine jump_act (fun A' hA => ?_)
                  exact ⟨rfl, g, q2, q4, s7, _, fun q => A'.tmps.getD q undef, ⟨T11.out.B, GQH.out, fun _ => ES.out, fun h => absurd h HE.out⟩, by rw [hA]; rfl⟩
            · obtain rfl : k = n := by omega
              have o3 : okB (thsR k s2).2.b := okB_ths k O2.out
              have l3 : (thsR k s2).2.b.length ≤ 65536 := Nat.le_trans (ths_short k s2) L2.out
              have ER2 := ER.out
              clear ER EA O2 L2 hlt hk G iT hT hT0 hT1 hT2 hn1
              generalize (thsR k s2).2 = s3 at *
              generalize (thsR k s2).1 = l at *
              generalize hvL : Value.slice A k c = vL at *
              clear hvL
              simp only [regsG] at ER2
              have o4 := okB_num o3
              have o5 := okB_num o4
              have o6 := okB_places o5
              have o7 := okB_count (each := 8) o6
              have l5 : (numR (numR s3).2).2.b.length ≤ 65536 := Nat.le_trans (num_short _) (Nat.le_trans (num_short _) l3)
              have l6 : (placesR (numR (numR s3).2).2).2.b.length ≤ 65536 := Nat.le_trans (places_short _) l5
              have l7 : (countR 8 (placesR (numR (numR s3).2).2).2).2.b.length ≤ 65536 := Nat.le_trans (count_short 8 _) l6
              obtain ⟨p0, p1⟩ := numR_in o3
              obtain ⟨f0, f1⟩ := numR_in o4
              have P64 := Lib.hid (num64 o3)
              have F64 := Lib.hid (num64 o4)
              have R64 := Lib.hid (places64 o5)
              have CN1 := Lib.hid (fun W2 (d : RdAt w W2 g s3) => rnumber_ d o3)
              have CN2 := Lib.hid (fun W2 (d : RdAt w W2 g (numR s3).2) => rnumber_ d o4)
              have CP1 := Lib.hid (fun W2 (d : RdAt w W2 g (numR (numR s3).2).2) => places_ d o5 (by omega))
              have CC8 := Lib.hid (fun W2 (d : RdAt w W2 g (placesR (numR (numR s3).2).2).2) => rcount_ d o6 8 (by omega) (by omega))
              obtain ⟨n0, n1⟩ := countR_in (each := 8) o6
              have hle := count_le (each := 8) (by omega) (placesR (numR (numR s3).2).2).2
              clear o3 o4 o5 o6 l3 l5 l6
              obtain ⟨m, hm⟩ := Int.eq_ofNat_of_zero_le n0
              rw [hm] at CC8 ER2 hle
              rw [Int.toNat_natCast] at ER2
              have hm1 : m ≤ 65536 := by omega
              have O7 := Lib.hid o7
              have L7 := Lib.hid l7
              clear hm n0 n1 hle o7 l7
              generalize (countR 8 (placesR (numR (numR s3).2).2).2).2 = s7 at *
              generalize (placesR (numR (numR s3).2).2).2 = s6 at *
              generalize (placesR (numR (numR s3).2).2).1 = re at *
              generalize (numR (numR s3).2).2 = s5 at *
              generalize (numR (numR s3).2).1 = nf at *
              generalize (numR s3).2 = s4 at *
              generalize (numR s3).1 = np at *
              have ER := Lib.hid ER2
              clear ER2
              obtain ⟨t1, t2, t3⟩ := GH.out.B.b4.rules
              go_upto_region 15 with ((first | (go_at_call 72; refine (CN2.out _ (G5.out.B.d.ext (is_ext _ _))).mono ?_; rintro e w6 ⟨rfl, hd, k6⟩; have G6 := Lib.hid ((G5.out.ext (is_ext _ _)).call GQH.out hd k6); clear hd k6; clear t1 t2 t3; obtain ⟨t1, t2, t3⟩ := G6.out.B.b4.rules) | (go_at_call 72; refine (CN1.out _ (GH.out.B.d.ext (is_ext _ _))).mono ?_; rintro e w5 ⟨rfl, hd, k5⟩; have G5 := Lib.hid ((GH.out.ext (is_ext _ _)).call GQH.out hd k5); clear hd k5; clear t1 t2 t3; obtain ⟨t1, t2, t3⟩ := G5.out.B.b4.rules)))
              refine wp_name (fun w7 hw => ?_)
              have G7 : Hid (GW w g q2 q4 s5 (mkG l np nf [] [] [] 0) (xG vL fs (.slice none 0 0) (.slice none 0 0) (.slice none 0 0)) w7) := Lib.hid (by rw [hw]; exact (G6.out.setP GQH.out P64.out).setF GQH.out F64.out)
              clear hw t1 t2 t3 G6 G5 GH CN1 CN2 P64 F64
              obtain ⟨t1, t2, t3⟩ := G7.out.B.b4.rules
              go_upto_region 16 with (go_at_call 73; refine (CP1.out _ (G7.out.B.d.ext (is_ext _ _))).mono ?_; rintro e w8 ⟨vr, rfl, hv, hd, k8⟩; obtain ⟨Ar, cr, ev⟩ := Own.form hv.own; subst ev; have RV8 := Lib.hid (OwnI.low hv (G7.out.ext (is_ext _ _)).B.d.x.below.size); clear hv; have G8 := Lib.hid ((G7.out.ext (is_ext _ _)).call GQH.out hd k8); clear hd k8; clear t1 t2 t3; obtain ⟨t1, t2, t3⟩ := G8.out.B.b4.rules)
              refine wp_name (fun w9 hw => ?_)
              have G9 : Hid (GW w g q2 q4 s6 (mkG l np nf re [] [] 0) (xG vL fs (.slice Ar re.length cr) (.slice none 0 0) (.slice none 0 0)) w9) := Lib.hid (by rw [hw]; exact G8.out.setRe GQH.out RV8.out R64.out)
              clear hw t1 t2 t3 G8 G7 CP1 R64 RV8
              generalize hvr : Value.slice Ar re.length cr = vr at *
              clear hvr
              obtain ⟨t1, t2, t3⟩ := G9.out.B.b4.rules
              go_upto_region 17 with (go_at_call 70; refine (CC8.out _ (G9.out.B.d.ext (is_ext _ _))).mono ?_; rintro e w10 ⟨rfl, hd, k10⟩; have G10 := Lib.hid ((G9.out.ext (is_ext _ _)).call GQH.out hd k10); clear hd k10; clear t1 t2 t3)
              clear G9 CC8 p0 p1 f0 f1
              obtain ⟨iW, hW, hW0, hW1, hW2⟩ := info_parts infoWg
              rename World => wo
              go_loopw [7, 63] (fun u7 iv wr => ∃ j : Nat, j ≤ m ∧ iv = .int .i64 j ∧ ∃ A c, GW w g q2 q4 (waitsR j s7).2 (mkG l np nf re (waitsR j s7).1 [] 0) (xG vL fs vr (.slice A j c) (.slice none 0 0)) wr) (fun _ iv _ => m - (intOf iv).toNat)
              case atStart => exact ⟨0, Nat.zero_le _, rfl, none, 0, G10.out⟩
              case round =>
                clear G10
                obtain ⟨j, hj, rfl, A, c, G⟩ := hrel
                have GH := Lib.hid G
                by_cases hlt : j < m
                · have kI : (j : Int) < (m : Int) := by omega
                  have o8 : okB (waitsR j s7).2.b := okB_waits j O7.out
                  have o9 := okB_num o8
                  obtain ⟨p0, p1⟩ := numR_in o8
                  obtain ⟨f0, f1⟩ := numR_in o9
                  have CW1 := Lib.hid (fun W2 (d : RdAt w W2 g (waitsR j s7).2) => rnumber_ d o8)
                  have CW2 := Lib.hid (fun W2 (d : RdAt w W2 g (numR (waitsR j s7).2).2) => rnumber_ d o9)
                  have U64 := Lib.hid (And.intro (num64 o8) (num64 o9))
                  have LJ := Lib.hid (waits_len j s7)
                  have EN2 : Hid (waitsR (j + 1) s7 = ((waitsR j s7).1 ++ [((numR (waitsR j s7).2).1, (numR (numR (waitsR j s7).2).2).1)], (numR (numR (waitsR j s7).2).2).2)) := Lib.hid rfl
                  clear o8 o9 G
                  obtain ⟨wa, hwa⟩ : ∃ wa, (waitsR j s7).1 = wa := ⟨_, rfl⟩
                  rw [hwa] at LJ EN2 GH
                  clear hwa
                  generalize (numR (numR (waitsR j s7).2).2).2 = sB at *
                  generalize (numR (waitsR j s7).2).2 = sA at *
                  obtain ⟨u, hu⟩ : ∃ u : Int × Int, ((numR (waitsR j s7).2).1, (numR sA).1) = u := ⟨_, rfl⟩
                  have hu1 : (numR (waitsR j s7).2).1 = u.1 := by rw [← hu]
                  have hu2 : (numR sA).1 = u.2 := by rw [← hu]
                  rw [hu] at EN2
                  rw [hu1] at CW1 p0 p1 U64
                  rw [hu2] at CW2 f0 f1 U64
                  clear hu hu1 hu2
                  generalize (waitsR j s7).2 = s8 at *
                  go_upto_region 19 with (go_at_call 72; refine (CW1.out _ (GH.out.B.d.ext (is_ext _ _))).mono ?_; rintro e w12 ⟨rfl, hd, k12⟩; have G12 := Lib.hid ((GH.out.ext (is_ext _ _)).call GQH.out hd k12); clear hd k12)
                  refine wp_any_act (fun A' hA => ?_)
                  have eA : A' = frRX g q2 q4 m j u (fun q => A'.tmps.getD q undef) (fun q => A'.tmps.getD q undef) := by rw [hA]; rfl
                  obtain ⟨uu, huu⟩ : ∃ uu, (fun q => A'.tmps.getD q undef) = uu := ⟨_, rfl⟩
                  rw [huu] at eA
                  rw [hA] at huu
                  have HU := Lib.hid huu
                  clear hA huu
                  subst eA
                  refine wp_name (fun w13 hw13 => ?_)
                  have G13 : Hid (GW w g q2 q4 sA (mkG l np nf re wa [] 0) (xG vL fs vr (.slice A j c) (.slice none 0 0)) w13) := Lib.hid (by rw [hw13]; exact G12.out)
                  clear hw13 G12
                  refine wp_region_inv (Inv := RXInv w g q2 q4 sA sB l np nf re wa vL fs vr A j c u m uu) (by kernel_rfl) ?_ ?_ ?_
                  · refine ⟨fun _ => false, fun k => ?_, uu, rfl, by simp, ⟨fun _ => G13.out.B.d.ext ((Ext.refl _).drew), ?_, G13.out.B.b2.drew, fun _ => G13.out.B.b4.drew, fun _ => G13.out.N.ext ((Ext.refl _).drew), ?_, ?_, ?_, ?_, ?_, ?_, ?_, ?_, ?_, ?_, ?_, ?_, ?_, ?_, ?_, ?_, ?_, ?_, ?_⟩⟩
                    · rw [Array.getD_eq_getD_getElem?, Array.getElem?_replicate]; split <;> rfl
                    all_goals (intro h; cases h)
                  · rintro listed act W ii ⟨L, hL, s, rfl, hsz, I⟩ hi
                    obtain ⟨hlt', hnot, hdep⟩ := (ready_iff _ _).1 hi
                    have hi8 : ii < 13 := hlt'
                    have cases8 : ii = 0 ∨ ii = 1 ∨ ii = 2 ∨ ii = 3 ∨ ii = 4 ∨ ii = 5 ∨ ii = 6 ∨ ii = 7 ∨ ii = 8 ∨ ii = 9 ∨ ii = 10 ∨ ii = 11 ∨ ii = 12 := by omega
                    have hn0 : L ii = false := by rw [← hL ii]; exact not_bit hnot
                    clear hi hlt' hi8 hnot
                    unfold frRX
                    rcases cases8 with rfl | rfl | rfl | rfl | rfl | rfl | rfl | rfl | rfl | rfl | rfl | rfl | rfl
                    · -- operation 0
                      refine wpOp_step rfl (fun K' hK => ?_)
                      go_simp
                      exact hK _ _ ⟨_, bit_set hL hsz 0 (by omega), fun jx => if jx = 68 then .pointer (some ⟨q4, 3, none⟩) else s jx, by first | (simp [frRX]; done) | (simp [frRX]; rfl), by simpa using hsz, ⟨I.dA, I.dB, I.b2, I.b4, I.nw, I.k6, I.k7, I.k8, I.k9, I.k92, I.k12, fun _ => rfl, I.p1, I.l2, I.m3, I.m4, I.v5, I.c6, I.b7, I.b8, I.a9, I.p10, I.p11, I.e12⟩⟩
                    · -- operation 1
                      simp [hL, Region.binds] at hdep
                      have d0 : L 0 = true := by simp [hdep]
                      have es := I.p0 d0
                      refine wpOp_step rfl (fun K' hK => ?_)
                      rw [es]
                      go_simp
                      exact hK _ _ ⟨_, bit_set hL hsz 1 (by omega), fun jx => if jx = 69 then .pointer (some ⟨q4, 6, none⟩) else s jx, by first | (simp [frRX, es]; done) | (simp [frRX, es]; rfl), by simpa using hsz, ⟨I.dA, I.dB, I.b2, I.b4, I.nw, I.k6, I.k7, I.k8, I.k9, I.k92, I.k12, I.p0, fun _ => rfl, I.l2, I.m3, I.m4, I.v5, I.c6, I.b7, I.b8, I.a9, I.p10, I.p11, I.e12⟩⟩
                    · -- operation 2
                      simp [hL, Region.binds] at hdep
                      have d1 : L 1 = true := by simp [hdep]
                      have es := I.p1 d1
                      have n9 : L 9 = false := by cases hh9 : L 9 with | false => rfl | true => exact (by rw [I.k92 hh9] at hn0; cases hn0)
                      have n12 : L 12 = false := by cases hh12 : L 12 with | false => rfl | true => exact (by rw [I.k12 hh12] at n9; cases n9)
                      have hc : W.cell? ⟨q4, 6, none⟩ = some (.slice A j c) := (I.b4 n12).cell 6
                      have hlc := (I.b4 n12).lt
                      refine wpOp_step rfl (fun K' hK => ?_)
                      rw [es]
                      go_simp
                      exact hK _ _ ⟨_, bit_set hL hsz 2 (by omega), fun jx => if jx = 70 then .slice A j c else s jx, by first | (simp [frRX, es]; done) | (simp [frRX, es]; rfl), by simpa using hsz, ⟨I.dA, I.dB, I.b2, I.b4, I.nw, I.k6, I.k7, I.k8, I.k9, fun _ => rfl, I.k12, I.p0, I.p1, fun _ => rfl, I.m3, I.m4, I.v5, I.c6, I.b7, I.b8, I.a9, I.p10, I.p11, I.e12⟩⟩
                    · -- operation 3
                      refine wpOp_step rfl (fun K' hK => ?_)
                      go_simp
                      exact hK _ _ ⟨_, bit_set hL hsz 3 (by omega), fun jx => if jx = 71 then .int .i64 u.1 else s jx, by first | (simp [frRX]; done) | (simp [frRX]; rfl), by simpa using hsz, ⟨I.dA, I.dB, I.b2, I.b4, I.nw, I.k6, I.k7, I.k8, I.k9, I.k92, I.k12, I.p0, I.p1, I.l2, fun _ => rfl, I.m4, I.v5, I.c6, I.b7, I.b8, I.a9, I.p10, I.p11, I.e12⟩⟩
                    · -- operation 4
                      refine wpOp_step rfl (fun K' hK => ?_)
                      go_simp
                      exact hK _ _ ⟨_, bit_set hL hsz 4 (by omega), fun jx => if jx = 72 then .pointer (some ⟨g, 0, none⟩) else s jx, by first | (simp [frRX]; done) | (simp [frRX]; rfl), by simpa using hsz, ⟨I.dA, I.dB, I.b2, I.b4, I.nw, I.k6, I.k7, I.k8, I.k9, I.k92, I.k12, I.p0, I.p1, I.l2, I.m3, fun _ => rfl, I.v5, I.c6, I.b7, I.b8, I.a9, I.p10, I.p11, I.e12⟩⟩
                    · -- operation 5
                      simp [hL, Region.binds] at hdep
                      have d4 : L 4 = true := by simp [hdep]
                      have es := I.m4 d4
                      have n6 : L 6 = false := by cases hh6 : L 6 with | false => rfl | true => exact (by rw [I.k6 hh6] at hn0; cases hn0)
                      have n7 : L 7 = false := by cases hh7 : L 7 with | false => rfl | true => exact (by rw [I.k7 hh7] at n6; cases n6)
                      have n8 : L 8 = false := by cases hh8 : L 8 with | false => rfl | true => exact (by rw [I.k8 hh8] at n7; cases n7)
                      have n9 : L 9 = false := by cases hh9 : L 9 with | false => rfl | true => exact (by rw [I.k9 hh9] at n8; cases n8)
                      have n12 : L 12 = false := by cases hh12 : L 12 with | false => rfl | true => exact (by rw [I.k12 hh12] at n9; cases n9)
                      refine wpOp_step rfl (fun K' hK => ?_)
                      rw [es]
                      go_simp
                      refine (CW2.out _ (I.dA hn0)).mono ?_
                      rintro e w9 ⟨rfl, hd, k9⟩
                      obtain ⟨vb, bb, _⟩ := (I.dA hn0).ex
                      have NN := I.nw n9
                      have kt9 : KT [124] W w9 := Keep.mono k9 (fun j e => by subst e; exact ⟨_, _, by simp, bb⟩)
                      exact hK _ _ ⟨_, bit_set hL hsz 5 (by omega), fun jx => if jx = 73 then .int .u32 u.2 else s jx, by first | (simp [frRX, es]; done) | (simp [frRX, es]; rfl), by simpa using hsz, ⟨(fun h => absurd h (by simp)), (fun _ => hd), I.b2.keep k9 n2g, (fun h => (I.b4 h).keep k9 n4g), (fun _ => NN.kt kt9 (by decide) (by decide) (by decide) (by decide) (by decide) (by decide)), fun _ => rfl, I.k7, I.k8, I.k9, I.k92, I.k12, I.p0, I.p1, I.l2, I.m3, I.m4, fun _ => rfl, I.c6, I.b7, (fun h => absurd (show L 8 = true from h) (by rw [n8]; decide)), (fun h => absurd (show L 9 = true from h) (by rw [n9]; decide)), I.p10, I.p11, (fun h => absurd (show L 12 = true from h) (by rw [n12]; decide))⟩⟩
                    · -- operation 6
                      simp [hL, Region.binds] at hdep
                      have d5 : L 5 = true := by simp [hdep]
                      have es := I.v5 d5
                      have wu : IntKind.i64.wrap u.2 = u.2 := IntWalk.i64_in _ (by omega)
                      refine wpOp_step rfl (fun K' hK => ?_)
                      rw [es]
                      go_simp
                      exact hK _ _ ⟨_, bit_set hL hsz 6 (by omega), fun jx => if jx = 74 then .int .i64 u.2 else s jx, by first | (simp [frRX, es]; done) | (simp [frRX, es, wu]; rfl), by simpa using hsz, ⟨I.dA, I.dB, I.b2, I.b4, I.nw, fun _ => d5, fun _ => rfl, I.k8, I.k9, I.k92, I.k12, I.p0, I.p1, I.l2, I.m3, I.m4, I.v5, fun _ => rfl, I.b7, I.b8, I.a9, I.p10, I.p11, I.e12⟩⟩
                    · -- operation 7
                      simp [hL, Region.binds] at hdep
                      have d3 : L 3 = true := by simp [hdep]
                      have d6 : L 6 = true := by simp [hdep]
                      have e3 := I.m3 d3
                      have e6 := I.c6 d6
                      refine wpOp_step rfl (fun K' hK => ?_)
                      rw [e3, e6]
                      go_simp
                      exact hK _ _ ⟨_, bit_set hL hsz 7 (by omega), fun jx => if jx = 75 then .agg #[.int .i64 u.1, .int .i64 u.2] else s jx, by first | (simp [frRX, e3, e6]; done) | (simp [frRX, e3, e6]; rfl), by simpa using hsz, ⟨I.dA, I.dB, I.b2, I.b4, I.nw, I.k6, fun _ => d6, fun _ => rfl, I.k9, I.k92, I.k12, I.p0, I.p1, I.l2, I.m3, I.m4, I.v5, I.c6, fun _ => rfl, I.b8, I.a9, I.p10, I.p11, I.e12⟩⟩
                    · -- operation 8
                      simp [hL, Region.binds] at hdep
                      have d7 : L 7 = true := by simp [hdep]
                      have es := I.b7 d7
                      have n9 : L 9 = false := by cases hh9 : L 9 with | false => rfl | true => exact (by rw [I.k9 hh9] at hn0; cases hn0)
                      have n12 : L 12 = false := by cases hh12 : L 12 with | false => rfl | true => exact (by rw [I.k12 hh12] at n9; cases n9)
                      have xA := (Ext.refl W).alloc (.cells #[.int .i64 u.1, .int .i64 u.2] 96)
                      refine wpOp_step rfl (fun K' hK => ?_)
                      rw [es]
                      go_simp
                      exact hK _ _ ⟨_, bit_set hL hsz 8 (by omega), fun jx => if jx = 76 then .slice (some ⟨W.heap.size, 0, none⟩) 1 1 else s jx, by first | (simp [frRX, es]; done) | (simp [frRX, es]; rfl), by simpa using hsz, ⟨(fun h => (I.dA h).ext xA), (fun h => (I.dB h).ext xA), I.b2.ext xA, (fun h => (I.b4 h).ext xA), (fun h => (I.nw h).ext xA), I.k6, I.k7, fun _ => d7, fun _ => rfl, I.k92, I.k12, I.p0, I.p1, I.l2, I.m3, I.m4, I.v5, I.c6, I.b7, (fun _ _ => ⟨_, rfl, Blk.new _ _ _⟩), (fun h => absurd (show L 9 = true from h) (by rw [n9]; decide)), I.p10, I.p11, (fun h => absurd (show L 12 = true from h) (by rw [n12]; decide))⟩⟩
                    · -- operation 9
                      simp [hL, Region.binds] at hdep
                      have d2 : L 2 = true := by simp [hdep]
                      have d8 : L 8 = true := by simp [hdep]
                      have n12 : L 12 = false := by cases hh12 : L 12 with | false => rfl | true => exact (by rw [I.k12 hh12] at hn0; cases hn0)
                      have e1 := I.l2 d2
                      obtain ⟨bb, e4, hbb⟩ := I.b8 d8 hn0
                      have NN := I.nw hn0
                      have OO : Own W w.heap.size 96 (.slice A j c) j 2 (cWs wa) := by have q := NN.R.wa; have e : (mkG l np nf re wa [] 0).R.wait.length = j := LJ.out; rw [e] at q; exact q
                      refine wpOp_step rfl (fun K' hK => ?_)
                      rw [e1, e4]
                      refine step_append_lies _ (by rfl) (.tmp 70) (.tmp 76) 26 (by rfl) w.heap.size 96 iW (.agg #[.int .i64 0, .int .i64 0]) 2 16 Tryz.underlying26 hW hW0 hW1 hW2 rfl (by decide) (.slice A j c) j (flat j 2 (cWs wa)) (by rfl) OO ⟨bb, 0, none⟩ 1 1 [.int .i64 u.1, .int .i64 u.2] (by rfl) (by rfl) (World.news_of_block hbb) (by simp [Value.oneCell']) (by omega) (by unfold maxLen; omega) (by omega) (by have := I.b2.lt; have := GQH.out.h2; omega) W.heap.size rfl ?_
                      intro gd cd w10 o10 g10 hat hlt10
                      have KG : Keep (fun k => Value.ownBlock (.slice A j c) = some k) W w10 := ⟨g10.os, g10.tape, g10.output, g10.size, fun k hk hn => g10.block k hk (fun e => hn e.symm)⟩
                      have nT : ∀ {b : Nat} {cs : Array Value}, Blk W b 31 cs → ¬ Value.ownBlock (.slice A j c) = some b := fun hb e => by obtain ⟨_, c, h'⟩ := OO.block e; exact (hb.ne h' (by decide)) rfl
                      have nR : ∀ {s : RdS}, RdAt w W g s → RdAt w w10 g s := fun d => d.grow KG (fun e => by obtain ⟨_, c, h'⟩ := OO.block e; obtain ⟨_, b, _⟩ := d.ex; exact (b.ne h' (by decide)) rfl) (fun k e => (OO.block e).1)
                      have o11 : w10.ownsRow w.heap.size 96 2 (.slice (some ⟨gd, 0, none⟩) (j + 1) cd) (wa.length + 1) (flat wa.length 2 (cWs wa) ++ [.int .i64 u.1, .int .i64 u.2]) := by
                        rw [LJ.out]; exact o10
                      have NP := NewW.pushW NN KG o11 U64.out
                      refine hK _ _ ⟨_, bit_set hL hsz 9 (by omega), fun jx => if jx = 77 then .slice (some ⟨gd, 0, none⟩) (j + 1) cd else s jx, by first | (simp [frRX, e1, e4, Act.put]; done) | (simp [frRX, e1, e4, Act.put]; rfl), by simpa using hsz, ⟨(fun h => nR (I.dA h)), (fun h => nR (I.dB h)), I.b2.keep KG (nT I.b2), (fun h => (I.b4 h).keep KG (nT (I.b4 h))), (fun h => absurd h (by simp)), I.k6, I.k7, I.k8, fun _ => d8, fun _ => d2, fun _ => rfl, I.p0, I.p1, I.l2, I.m3, I.m4, I.v5, I.c6, I.b7, (fun _ h => absurd h (by simp)), (fun _ => ⟨gd, cd, rfl, NP⟩), I.p10, I.p11, (fun h => absurd (show L 12 = true from h) (by rw [n12]; decide))⟩⟩
                    · -- operation 10
                      refine wpOp_step rfl (fun K' hK => ?_)
                      go_simp
                      exact hK _ _ ⟨_, bit_set hL hsz 10 (by omega), fun jx => if jx = 78 then .pointer (some ⟨q4, 3, none⟩) else s jx, by first | (simp [frRX]; done) | (simp [frRX]; rfl), by simpa using hsz, ⟨I.dA, I.dB, I.b2, I.b4, I.nw, I.k6, I.k7, I.k8, I.k9, I.k92, I.k12, I.p0, I.p1, I.l2, I.m3, I.m4, I.v5, I.c6, I.b7, I.b8, I.a9, fun _ => rfl, I.p11, I.e12⟩⟩
                    · -- operation 11
                      simp [hL, Region.binds] at hdep
                      have d10 : L 10 = true := by simp [hdep]
                      have es := I.p10 d10
                      refine wpOp_step rfl (fun K' hK => ?_)
                      rw [es]
                      go_simp
                      exact hK _ _ ⟨_, bit_set hL hsz 11 (by omega), fun jx => if jx = 79 then .pointer (some ⟨q4, 6, none⟩) else s jx, by first | (simp [frRX, es]; done) | (simp [frRX, es]; rfl), by simpa using hsz, ⟨I.dA, I.dB, I.b2, I.b4, I.nw, I.k6, I.k7, I.k8, I.k9, I.k92, I.k12, I.p0, I.p1, I.l2, I.m3, I.m4, I.v5, I.c6, I.b7, I.b8, I.a9, I.p10, fun _ => rfl, I.e12⟩⟩
                    · -- operation 12
                      simp [hL, Region.binds] at hdep
                      have d9 : L 9 = true := by simp [hdep]
                      have d11 : L 11 = true := by simp [hdep]
                      have e6 := I.p11 d11
                      obtain ⟨gd, cd, e5, N5⟩ := I.a9 d9
                      have B4 := I.b4 hn0
                      have hc : W.cell? ⟨q4, 6, none⟩ = some (.slice A j c) := B4.cell 6
                      have hlc := B4.lt
                      have hfc := B4.frozen
                      refine wpOp_step rfl (fun K' hK => ?_)
                      rw [e5, e6]
                      go_simp
                      have KTs := kt_set B4 6 (.slice (some ⟨gd, 0, none⟩) (j + 1) cd)
                      exact hK _ _ ⟨_, bit_set hL hsz 12 (by omega), s, by first | (simp [frRX, e5, e6]; done) | (simp [frRX, e5, e6]; rfl), by simpa using hsz, ⟨(fun h => (I.dA h).far n4g h4w 6 _), (fun h => (I.dB h).far n4g h4w 6 _), I.b2.far (p := ⟨q4, 6, none⟩) n24 _, (fun h => absurd h (by simp)), (fun h => absurd (show L 9 = false from h) (by rw [d9]; decide)), I.k6, I.k7, I.k8, I.k9, I.k92, fun _ => d9, I.p0, I.p1, I.l2, I.m3, I.m4, I.v5, I.c6, I.b7, (fun _ h => absurd (show L 9 = false from h) (by rw [d9]; decide)), (fun _ => ⟨gd, cd, e5, N5.kt KTs (by decide) (by decide) (by decide) (by decide) (by decide) (by decide)⟩), I.p10, I.p11, (fun _ => by rw [e5]; exact B4.set 6 _)⟩⟩
                  · rintro listed act W ⟨L, hL, s, rfl, hsz, I⟩ hr
                    have ALL : ∀ i, i < 13 → L i = true := fun i hi => by rw [← hL i]; exact all_listed (by kernel_rfl) hsz hr i hi
                    obtain ⟨gd, cd, e5, N5⟩ := I.a9 (ALL 9 (by omega))
                    have B4 := I.e12 (ALL 12 (by omega))
                    rw [e5] at B4
                    have T14 : Hid (GW w g q2 q4 sB (mkG l np nf re (wa ++ [u]) [] 0) (xG vL fs vr (.slice (some ⟨gd, 0, none⟩) (j + 1) cd) (.slice none 0 0)) W) := Lib.hid ⟨⟨I.dB (ALL 5 (by omega)), I.b2, B4⟩, N5⟩
                    unfold frRX
                    dsimp only
                    rw [← HU.out]
                    simp only [Array.getD_eq_getD_getElem?, List.getElem?_toArray, List.getElem?_cons_zero, List.getElem?_cons_succ, Option.getD_some]
                    clear hL ALL HU hr hsz I e5 N5 B4 G13 CW1 CW2
                    go_wp2_with fail
                    go_roundw
                    case rel => exact ⟨j + 1, by omega, by go_num, some ⟨gd, 0, none⟩, cd, by rw [EN2.out]; exact T14.out⟩
                    case measure => simp [intOf] <;> omega
                · obtain rfl : j = m := by omega
                  have o8 : okB (waitsR j s7).2.b := okB_waits j O7.out
                  have l8 : (waitsR j s7).2.b.length ≤ 65536 := Nat.le_trans (waits_short j s7) L7.out
                  have l10 : (numR (placesR (waitsR j s7).2).2).2.b.length ≤ 65536 := Nat.le_trans (num_short _) (Nat.le_trans (places_short _) l8)
                  have ER3 := ER.out
                  clear ER O7 L7 hlt hj G
                  generalize (waitsR j s7).2 = s8 at *
                  generalize (waitsR j s7).1 = wa at *
                  have o9 := okB_places o8
                  obtain ⟨p0, p1⟩ := numR_in o9
                  have D64 := Lib.hid (places64 o8)
                  have A64 := Lib.hid (num64 o9)
                  have CP2 := Lib.hid (fun W2 (d : RdAt w W2 g s8) => places_ d o8 (by omega))
                  have CN3 := Lib.hid (fun W2 (d : RdAt w W2 g (placesR s8).2) => rnumber_ d o9)
                  clear o8 o9
                  generalize (numR (placesR s8).2).2 = s10 at *
                  generalize (numR (placesR s8).2).1 = la at *
                  generalize (placesR s8).2 = s9 at *
                  generalize (placesR s8).1 = du at *
                  have EF : Hid (getS b = if (seenR (mkG l np nf re wa du la) (overR s10)).e = 0 then (0, some (mkG l np nf re wa du la)) else ((seenR (mkG l np nf re wa du la) (overR s10)).e, none)) := Lib.hid (by rw [EG.out, ER3]; rfl)
                  clear ER3 EG
                  generalize hvw : Value.slice A j c = vw at *
                  clear hvw
                  have CW4 := Lib.hid (fun W2 (d : RdAt w W2 g s10) => wrong_ d 4)
                  obtain ⟨t1, t2, t3⟩ := GH.out.B.b4.rules
                  go_upto_region 22 with (go_at_call 73; refine (CP2.out _ (GH.out.B.d.ext (is_ext _ _))).mono ?_; rintro e w16 ⟨vd, rfl, hv, hd, k16⟩; obtain ⟨Ad, cd, ev⟩ := Own.form hv.own; subst ev; have AP16 := Lib.hid (Apart.symm (Own.apart (OwnI.own hv) (GH.out.ext (is_ext _ _)).N.R.re)); have DV16 := Lib.hid (OwnI.low hv (GH.out.ext (is_ext _ _)).B.d.x.below.size); clear hv; have G16 := Lib.hid ((GH.out.ext (is_ext _ _)).call GQH.out hd k16); clear hd k16; clear t1 t2 t3; obtain ⟨t1, t2, t3⟩ := G16.out.B.b4.rules)
                  refine wp_name (fun w17 hw => ?_)
                  have G17 : Hid (GW w g q2 q4 s9 (mkG l np nf re wa du 0) (xG vL fs vr vw (.slice Ad du.length cd)) w17) := Lib.hid (by rw [hw]; exact G16.out.setDu GQH.out DV16.out AP16.out D64.out)
                  clear hw t1 t2 t3 G16 GH CP2 D64 AP16 DV16
                  generalize hvd : Value.slice Ad du.length cd = vd at *
                  clear hvd
                  obtain ⟨t1, t2, t3⟩ := G17.out.B.b4.rules
                  go_upto_region 23 with (go_at_call 72; refine (CN3.out _ (G17.out.B.d.ext (is_ext _ _))).mono ?_; rintro e w18 ⟨rfl, hd, k18⟩; have G18 := Lib.hid ((G17.out.ext (is_ext _ _)).call GQH.out hd k18); clear hd k18; clear t1 t2 t3; obtain ⟨t1, t2, t3⟩ := G18.out.B.b4.rules)
                  refine wp_name (fun w19 hw => ?_)
                  have G19 : Hid (GW w g q2 q4 s10 (mkG l np nf re wa du la) (xG vL fs vr vw vd) w19) := Lib.hid (by rw [hw]; exact G18.out.setLa GQH.out A64.out)
                  clear hw t1 t2 t3 G18 G17 CN3 A64 p0 p1
                  obtain ⟨vb, bb, rr⟩ := G19.out.B.d.ex
                  obtain ⟨Ab, cb, ev, _⟩ := Row.form rr
                  subst ev
                  have c0 : w19.cell? ⟨g, 0, none⟩ = some (.slice Ab s10.b.length cb) := bb.cell 0
                  have hlg := bb.lt
                  clear bb rr
                  go_upto_if 94 with (fail)
                  go_cut [95] from 94 to 96 (fun v95 wx => GW w g q2 q4 (overR s10) (mkG l np nf re wa du la) (xG vL fs vr vw vd) wx)
                  case first =>
                    by_cases hov : 0 < s10.b.length
                    · have hovI : (0 : Int) < (s10.b.length : Int) := by omega
                      have ES : Hid (overR s10 = wrongR 4 s10) := Lib.hid (by unfold overR; rw [if_pos hov])
                      go_wp2_with (go_at_call 68; refine (CW4.out _ (G19.out.B.d.ext (is_ext _ _))).mono ?_; rintro e w20 ⟨rfl, hd, k20⟩; have G20 := Lib.hid ((G19.out.ext (is_ext _ _)).call GQH.out hd k20); clear hd k20)
                      go_meet
                      rw [ES.out]; exact G20.out
                    · have hovI : ¬ (0 : Int) < (s10.b.length : Int) := by omega
                      have ES : Hid (overR s10 = s10) := Lib.hid (by unfold overR; rw [if_neg hov])
                      go_wp2_with fail
                      go_meet
                      rw [ES.out]; exact G19.out
                  case rest =>
                    have G21 := Lib.hid hcut
                    clear hcut CW4 G19 c0 hlg l10
                    generalize overR s10 = s11 at *
                    obtain ⟨vb, bb, _⟩ := G21.out.B.d.ex
                    have c1 : wc.cell? ⟨g, 1, none⟩ = some (.int .i64 s11.e) := bb.cell 1
                    have hlg := bb.lt
                    clear bb
                    by_cases he : s11.e = 0
                    · have e1 : (s11.e == 0) = true := by simp [he]
                      obtain ⟨cb, hcb⟩ : ∃ cb, checkB (mkG l np nf re wa du la) = cb := ⟨_, rfl⟩
                      have CK := Lib.hid (fun W2 (z : Ext wc W2) => check (NewW.at_ (G21.out.N.ext z)))
                      rw [hcb] at CK
                      have CW5 := Lib.hid (fun W2 (d : RdAt w W2 g s11) => wrong_ d 5)
                      have EC := Lib.hid (And.intro he hcb)
                      clear he hcb
                      obtain ⟨t1, t2, t3⟩ := G21.out.B.b4.rules
                      simp only [cellsW, mkG, xG] at t1 CK
                      cases cb with
                      | true =>
                        have ES : Hid (seenR (mkG l np nf re wa du la) s11 = s11) := Lib.hid (by unfold seenR; rw [if_neg (fun q => by rw [EC.out.2] at q; cases q.2)])
                        go_wp2_with (go_at_call 20; refine (CK.out _ (is_ext _ _)).mono ?_; rintro e w22 ⟨rfl, x22⟩; have G22 := Lib.hid ((G21.out.ext (is_ext _ _)).ext x22); clear x22)
                        refine wp_label ?_
                        go_step
                        go_step
                        refine wp_any_act (fun A' hA => ?_)
                        refine KL.out A' _ ?_
                        exact ⟨g, q2, q4, _, _, fun q => A'.tmps.getD q undef, ge_end G22.out GQH.out (by rw [EF.out, ES.out]), by rw [hA]; rfl⟩
                      | false =>
                        have ES : Hid (seenR (mkG l np nf re wa du la) s11 = wrongR 5 s11) := Lib.hid (by unfold seenR; rw [if_pos ⟨EC.out.1, EC.out.2⟩])
                        go_wp2_with ((first | (go_at_call 68; refine (CW5.out _ (G22.out.B.d.ext (is_ext _ _))).mono ?_; rintro e w23 ⟨rfl, hd, k23⟩; have G23 := Lib.hid ((G22.out.ext (is_ext _ _)).call GQH.out hd k23); clear hd k23) | (go_at_call 20; refine (CK.out _ (is_ext _ _)).mono ?_; rintro e w22 ⟨rfl, x22⟩; have G22 := Lib.hid ((G21.out.ext (is_ext _ _)).ext x22); clear x22)))
                        refine wp_label ?_
                        go_step
                        go_step
                        refine wp_any_act (fun A' hA => ?_)
                        refine KL.out A' _ ?_
                        exact ⟨g, q2, q4, _, _, fun q => A'.tmps.getD q undef, ge_end G23.out GQH.out (by rw [EF.out, ES.out]), by rw [hA]; rfl⟩
                    · have e1 : (s11.e == 0) = false := beq_eq_false_iff_ne.2 he
                      have ES : Hid (seenR (mkG l np nf re wa du la) s11 = s11) := Lib.hid (stay_seen he)
                      clear he
                      go_wp2_with fail
                      refine wp_label ?_
                      go_step
                      go_step
                      refine wp_any_act (fun A' hA => ?_)
                      refine KL.out A' _ ?_
                      exact ⟨g, q2, q4, _, _, fun q => A'.tmps.getD q undef, ge_end G21.out GQH.out (by rw [EF.out, ES.out]), by rw [hA]; rfl⟩
  · rintro a' W ⟨g, q2, q4, s, cs, u, G, rfl⟩
    have GH := Lib.hid G
    unfold frG
    obtain ⟨vb, bb, _⟩ := G.B.d.ex
    obtain ⟨r1, r2, r3⟩ := bb.rules
    obtain ⟨s1, s2, s3⟩ := G.B.b2.rules
    obtain ⟨t1, t2, t3⟩ := G.B.b4.rules
    unfold zeroWc at s1
    have n24 := G.q.n24
    have n42 : q4 ≠ q2 := fun e => n24 e.symm
    have n2g := G.q.n2g
    have ng2 : g ≠ q2 := fun e => n2g e.symm
    by_cases he : s.e = 0
    · obtain ⟨Wp, x, eg, rfl, nw⟩ := G.yes he
      obtain ⟨xL, xfs, xD, xRe, xWa, xDu, xSn⟩ := x
      obtain ⟨zL, yL, fL⟩ := Own.form nw.L
      obtain ⟨zD, yD, fD⟩ := Own.form nw.dead
      obtain ⟨zRe, yRe, fRe⟩ := Own.form nw.R.re
      obtain ⟨zWa, yWa, fWa⟩ := Own.form nw.R.wa
      obtain ⟨zDu, yDu, fDu⟩ := Own.form nw.R.du
      obtain ⟨zSn, ySn, fSn⟩ := Own.form nw.R.sn
      simp only at fL fD fRe fWa fDu fSn
      subst fL fD fRe fWa fDu fSn
      have NW := Lib.hid nw
      have EG := Lib.hid eg
      simp only [cellsW] at t1
      have e1 : (s.e != 0) = false := by simp [he]
      clear G bb nw eg he
      go_wp2_with fail
      have KP := ((((((((((((((Keep.refl (· = q2) W).setCell (p := ⟨q2, 0, none⟩) rfl (.slice zL Wp.L.length yL)).setCell (p := ⟨q2, 1, none⟩) rfl (.slice zD Wp.dead.length yD)).setCell (p := ⟨q2, 2, none⟩) rfl (.int .i64 Wp.last)).setCell (p := ⟨q2, 3, none⟩) rfl (.int .i64 Wp.R.proc)).setCell (p := ⟨q2, 4, none⟩) rfl (.int .i64 Wp.R.frame)).setCell (p := ⟨q2, 5, none⟩) rfl (.slice zRe Wp.R.ready.length yRe)).setCell (p := ⟨q2, 6, none⟩) rfl (.slice zWa Wp.R.wait.length yWa)).setCell (p := ⟨q2, 7, none⟩) rfl (.slice zDu Wp.R.due.length yDu)).setCell (p := ⟨q2, 8, none⟩) rfl (.string Wp.R.out)).setCell (p := ⟨q2, 9, none⟩) rfl (.string Wp.R.inp)).setCell (p := ⟨q2, 10, none⟩) rfl (.int .i64 Wp.R.how)).setCell (p := ⟨q2, 11, none⟩) rfl (.int .i64 Wp.R.exit)).setCell (p := ⟨q2, 12, none⟩) rfl (.slice zSn Wp.R.snaps.length ySn))
      have KPT : KT [31] W _ := Keep.mono KP (fun j e => by subst e; exact ⟨_, _, by simp, GH.out.B.b2⟩)
      have NF := NW.out.kt KPT (by decide) (by decide) (by decide) (by decide) (by decide) (by decide)
      refine bodyPost_ret (v := .tuple #[.agg #[.slice zL Wp.L.length yL, .slice zD Wp.dead.length yD, .int .i64 Wp.last, .int .i64 Wp.R.proc, .int .i64 Wp.R.frame, .slice zRe Wp.R.ready.length yRe, .slice zWa Wp.R.wait.length yWa, .slice zDu Wp.R.due.length yDu, .string Wp.R.out, .string Wp.R.inp, .int .i64 Wp.R.how, .int .i64 Wp.R.exit, .slice zSn Wp.R.snaps.length ySn], .int .i64 0]) (by simp [results, Tryz.results44, go_sem, s1] <;> rfl) rfl ?_
      unfold PostG
      rw [EG.out]
      refine ⟨_, rfl, (fun h => by cases h), (fun W' hW' => ?_), (((((((((((((GH.out.B.d.x.setNew (p := ⟨q2, 0, none⟩) GH.out.q.h2 (.slice zL Wp.L.length yL)).setNew (p := ⟨q2, 1, none⟩) GH.out.q.h2 (.slice zD Wp.dead.length yD)).setNew (p := ⟨q2, 2, none⟩) GH.out.q.h2 (.int .i64 Wp.last)).setNew (p := ⟨q2, 3, none⟩) GH.out.q.h2 (.int .i64 Wp.R.proc)).setNew (p := ⟨q2, 4, none⟩) GH.out.q.h2 (.int .i64 Wp.R.frame)).setNew (p := ⟨q2, 5, none⟩) GH.out.q.h2 (.slice zRe Wp.R.ready.length yRe)).setNew (p := ⟨q2, 6, none⟩) GH.out.q.h2 (.slice zWa Wp.R.wait.length yWa)).setNew (p := ⟨q2, 7, none⟩) GH.out.q.h2 (.slice zDu Wp.R.due.length yDu)).setNew (p := ⟨q2, 8, none⟩) GH.out.q.h2 (.string Wp.R.out)).setNew (p := ⟨q2, 9, none⟩) GH.out.q.h2 (.string Wp.R.inp)).setNew (p := ⟨q2, 10, none⟩) GH.out.q.h2 (.int .i64 Wp.R.how)).setNew (p := ⟨q2, 11, none⟩) GH.out.q.h2 (.int .i64 Wp.R.exit)).setNew (p := ⟨q2, 12, none⟩) GH.out.q.h2 (.slice zSn Wp.R.snaps.length ySn))⟩
      injection hW' with hW'
      subst hW'
      exact ⟨_, rfl, NF⟩
    · have e1 : (s.e != 0) = true := by simp [he]
      have EG := Lib.hid (G.no he)
      have c1 : W.cell? ⟨g, 1, none⟩ = some (.int .i64 s.e) := r1 1
      clear G bb he t1
      go_upto_region 28 with (fail)
      go_region_held3 (fun w' => w'.cell? ⟨g, 1, none⟩ = some (.int .i64 s.e)) (first | go_keep | exact c1) (fail)
      all_goals
        go_wp2_with fail
        refine bodyPost_ret (v := .tuple #[.agg zeroWc, .int .i64 s.e]) (by simp [results, Tryz.results44, go_sem, s1, zeroWc] <;> rfl) rfl ?_
        unfold PostG
        rw [EG.out]
        exact ⟨_, rfl, fun _ => rfl, (fun W' hW' => by cases hW'), (((((((((((((GH.out.B.d.x.setNew (p := ⟨q2, 0, none⟩) GH.out.q.h2 (.slice none 0 0)).setNew (p := ⟨q2, 1, none⟩) GH.out.q.h2 (.slice none 0 0)).setNew (p := ⟨q2, 2, none⟩) GH.out.q.h2 (.int .i64 0)).setNew (p := ⟨q2, 3, none⟩) GH.out.q.h2 (.int .i64 0)).setNew (p := ⟨q2, 4, none⟩) GH.out.q.h2 (.int .i64 0)).setNew (p := ⟨q2, 5, none⟩) GH.out.q.h2 (.slice none 0 0)).setNew (p := ⟨q2, 6, none⟩) GH.out.q.h2 (.slice none 0 0)).setNew (p := ⟨q2, 7, none⟩) GH.out.q.h2 (.slice none 0 0)).setNew (p := ⟨q2, 8, none⟩) GH.out.q.h2 (.string ByteArray.empty)).setNew (p := ⟨q2, 9, none⟩) GH.out.q.h2 (.string ByteArray.empty)).setNew (p := ⟨q2, 10, none⟩) GH.out.q.h2 (.int .i64 0)).setNew (p := ⟨q2, 11, none⟩) GH.out.q.h2 (.int .i64 0)).setNew (p := ⟨q2, 12, none⟩) GH.out.q.h2 (.slice none 0 0)).drew⟩
end
end Go.Proofs.YtjpalcejmloocaaGreat.World
