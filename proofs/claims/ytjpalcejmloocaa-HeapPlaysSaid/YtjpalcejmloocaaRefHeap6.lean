/-
  Chapter 5's reference (colloquyref05): DropReg (printed by gen_orow.py).
-/
import Derived.Test.YtjpalcejmloocaaRefHeap5
import Derived.Test.YtjpalcejmloocaaRegInv
namespace Go.Proofs.Ytjpalcejmloocaa.RefHeap
open Go.RowKit Go.Proofs.Ytjpalcejmloocaa.Plain Go.Proofs.Ytjpalcejmloocaa.Free Go.Proofs.Ytjpalcejmloocaa.Heap Go.Proofs.Ytjpalcejmloocaa.RefFree
set_option linter.unusedVariables false
theorem wp_any_act {P : Program} {c : Code} {Q : Exit → Act → World → Prop} {a : Act} {w : World} (h : ∀ A, A = a → c.wp P Q A w) : c.wp P Q a w := h a rfl
theorem not_bit {listed : Array Bool} {i : Nat} (h : listed.getD i true = false) : listed.getD i false = false := by
  rw [Array.getD_eq_getD_getElem?] at h ⊢
  cases hq : listed[i]? with
  | none => rfl
  | some b => rw [hq] at h; exact h
theorem bit_set {listed : Array Bool} {L : Nat → Bool} (h : ∀ k, listed.getD k false = L k) {n : Nat} (hs : listed.size = n) (i : Nat) (hi : i < n) : ∀ k, (listed.setIfInBounds i true).getD k false = (if k = i then true else L k) := by
  intro k
  rw [listed_set listed i k (by omega), h k]
  by_cases e : i = k
  · subst e; simp
  · have : k ≠ i := fun e' => e e'.symm
    simp [e, this]
structure DropReg (W0 : World) (h g la lq cap : Nat) (r0 : Value) (n0 : Nat) (xs0 : List Value) (m1 : Nat) (ys1 : List Value) (m2 : Nat) (ys2 : List Value) (L : Nat → Bool) (s : Nat → Value) (w : World) : Prop where
  x : L 18 = false → Ext W0 w
  kS : L 18 = true → ∀ i, i < 18 → L i = true
  kN : L 16 = true → ∀ i, i < 16 → L i = true
  kM : L 17 = true → L 16 = true
  k12 : L 15 = true → L 7 = true
  o0 : L 7 = false → OneO W0 w r0 n0 xs0
  o1 : L 7 = true → L 15 = false → OneO W0 w (s 33) (n0 + m1) (xs0 ++ ys1)
  o2 : L 15 = true → L 18 = false → OneO W0 w (s 41) (n0 + m1 + m2) (xs0 ++ ys1 ++ ys2)
  es : L 18 = true → ∃ v w1, OneO W0 w1 v (n0 + m1 + m2) (xs0 ++ ys1 ++ ys2) ∧ w = w1.setCell ⟨h, 0, none⟩ v
  v0 : L 0 = true → s 26 = .pointer (some ⟨h, 0, none⟩)
  v1 : L 1 = true → s 27 = .pointer (some ⟨h, 0, none⟩)
  v2 : L 2 = true → s 28 = .pointer (some ⟨h, 0, none⟩)
  v3 : L 3 = true → s 29 = .pointer (some ⟨h, 0, none⟩)
  v4 : L 4 = true → s 30 = .slice (some ⟨g, 0, none⟩) lq cap
  v5 : L 5 = true → s 31 = .int .i64 (la : Int)
  v6 : L 6 = true → s 32 = .slice (some ⟨g, 0, none⟩) la cap
  v8 : L 8 = true → s 34 = .pointer (some ⟨h, 0, none⟩)
  v9 : L 9 = true → s 35 = .pointer (some ⟨h, 0, none⟩)
  v10 : L 10 = true → s 36 = .pointer (some ⟨h, 0, none⟩)
  v11 : L 11 = true → s 37 = .slice (some ⟨g, 0, none⟩) lq cap
  v12 : L 12 = true → s 38 = .int .i64 (la : Int)
  v13 : L 13 = true → s 39 = .int .i64 ((la : Int) + 1)
  v14 : L 14 = true → s 40 = .slice (some (tail9 g (la + 1) cap)) (lq - (la + 1)) (cap - (la + 1))
  v16 : L 16 = true → s 42 = .pointer (some ⟨h, 0, none⟩)
  v17 : L 17 = true → s 43 = .pointer (some ⟨h, 0, none⟩)
def frDropReg (W0 : World) (h g la lq cap : Nat) (r0 : Value) (n0 : Nat) (xs0 : List Value) (m1 : Nat) (ys1 : List Value) (m2 : Nat) (ys2 : List Value) (u s : Nat → Value) : Act := { tmps := #[.pointer (some ⟨h, 0, none⟩), u 1, u 2, u 3, u 4, .int .i64 (la : Int), u 6, u 7, u 8, u 9, u 10, u 11, u 12, u 13, u 14, u 15, u 16, u 17, u 18, u 19, u 20, u 21, u 22, u 23, u 24, u 25, s 26, s 27, s 28, s 29, s 30, s 31, s 32, s 33, s 34, s 35, s 36, s 37, s 38, s 39, s 40, s 41, s 42, s 43], defers := [] }
def DropRegInv (W0 : World) (h g la lq cap : Nat) (r0 : Value) (n0 : Nat) (xs0 : List Value) (m1 : Nat) (ys1 : List Value) (m2 : Nat) (ys2 : List Value) (u : Nat → Value) (listed : Array Bool) (a : Act) (W : World) : Prop :=
  ∃ L : Nat → Bool, (∀ k, listed.getD k false = L k) ∧ ∃ s : Nat → Value, a = frDropReg W0 h g la lq cap r0 n0 xs0 m1 ys1 m2 ys2 u s ∧ listed.size = 19 ∧ DropReg W0 h g la lq cap r0 n0 xs0 m1 ys1 m2 ys2 L s W
section
variable {w w' w2 : World} {h f ib base n : Nat} {vL : Value} {Q Q' A B : List QO} {q : QO} {is is' : List Bool} {at_ : Int}
set_option maxRecDepth 100000 in
set_option maxHeartbeats 2000000 in
theorem rdrop_no (H : HAt w h f ib base n vL Q is) (ha : ∀ a ∈ Q, (a.o.k : Int) + 1 ≠ at_) : Calls Try.prog 12 #[.pointer (some ⟨h, 0, none⟩), .int .i64 at_] w fun e w' => e = .returned (.bool false) ∧ Ext w w' := by
  have FH := Lib.hid (find_no H at_ ha)
  clear H ha
  go_enter Try.func12, Try.ntmps12
  go_wp2_with fail
  refine FH.out.mono ?_
  rintro e w1 ⟨rfl, x1⟩
  go_wp2_with fail
  go_ret
  exact ⟨rfl, x1⟩
theorem cells3 (H : HAt w h f ib base n vL (A ++ q :: B) is) {g lq cap la : Nat} (hv : vL = .slice (some ⟨g, 0, none⟩) lq cap) (hlq : (A ++ q :: B).length = lq) (hla : A.length = la) : w.cell? ⟨h, 0, none⟩ = some (.slice (some ⟨g, 0, none⟩) lq cap) ∧ w.cell? ⟨h, 1, none⟩ = some (.pointer (some ⟨f, 0, none⟩)) ∧ w.cell? ⟨g, la * 9 + 1, none⟩ = some (.int .i64 (3 + (q.o.W : Int))) := by
  obtain ⟨g', cap', e, _, _, _, _, c1, _⟩ := H.nine
  have r := H.blk.cell
  rw [hv] at e
  injection e with e _ _
  injection e with e
  injection e with e _ _
  subst e
  rw [hla] at c1
  exact ⟨by have := r 0; rw [hv] at this; exact this, r 1, c1⟩
set_option maxRecDepth 100000 in
set_option maxHeartbeats 4000000 in
theorem rdrop_yes (H : HAt w h f ib base n vL (A ++ q :: B) is) (ha : ∀ a ∈ A, (a.o.k : Int) + 1 ≠ (q.o.k : Int) + 1) (hW : q.o.W ≤ 60) (hfit : q.o.k + (3 + q.o.W) ≤ n) (hfr : ∀ x, q.o.k ≤ x → x < q.o.k + (3 + q.o.W) → is.getD x false = false) :
    Calls Try.prog 12 #[.pointer (some ⟨h, 0, none⟩), .int .i64 ((q.o.k : Int) + 1)] w fun e w' => e = .returned (.bool true) ∧ (∃ v', HAt w' h f ib base n v' (A ++ B) (clr is q.o.k true (3 + q.o.W))) ∧ RK base w w' := by
  have FH := Lib.hid (find_yes H _ rfl ha)
  have HH := Lib.hid H
  have hfew := H.few
  have hle := H.fr.le
  have GV := Lib.hid (fun W (x : Ext w W) => rgive (H.ext x).fr q.o.k (3 + q.o.W) (by omega) hfit hfr)
  have hlt : A.length < (A ++ q :: B).length := by simp
  have i1 : (A.length : Int) < ((A ++ q :: B).length : Int) := by omega
  have i0 : (0 : Int) ≤ (A.length : Int) := by omega
  clear H ha hfr
  go_enter Try.func12, Try.ntmps12
  go_wp2_with fail
  refine FH.out.mono ?_
  rintro e w1 ⟨rfl, x1⟩
  obtain ⟨g, cap, hv, hb, hg, hf, c0', c1', c2', c3', c4', c5', c6', c7', c8'⟩ := (HH.out.ext x1).nine
  obtain ⟨r1, r2, r3⟩ := (HH.out.ext x1).blk.rules
  rw [hv] at r1
  have HV := Lib.hid hv
  have X1 := Lib.hid x1
  clear FH hf c0' c2' c3' c4' c5' c6' c7' c8'
  generalize hlq : (A ++ q :: B).length = lq at *
  generalize hla : A.length = la at *
  have LQ := Lib.hid hlq
  have LA := Lib.hid hla
  clear hlq hla
  go_wp2_with fail
  have XD := Lib.hid (x1.trans (Ext.refl w1).drew)
  have cs1 : w1.drew.cell? ⟨h, 0, none⟩ = some (.slice (some ⟨g, 0, none⟩) lq cap) ∧ w1.drew.cell? ⟨h, 1, none⟩ = some (.pointer (some ⟨f, 0, none⟩)) ∧ w1.drew.cell? ⟨g, la * 9 + 1, none⟩ = some (.int .i64 (3 + (q.o.W : Int))) := ⟨r1 0, r1 1, c1'⟩
  go_region_held3 (fun w' => w'.cell? ⟨h, 0, none⟩ = some (.slice (some ⟨g, 0, none⟩) lq cap) ∧ w'.cell? ⟨h, 1, none⟩ = some (.pointer (some ⟨f, 0, none⟩)) ∧ w'.cell? ⟨g, la * 9 + 1, none⟩ = some (.int .i64 (3 + (q.o.W : Int)))) (first | exact cs2 | exact cs1) ((go_at_call 51; rw [IntWalk.i64_in (q.o.k : Int) (by omega), show 3 + (q.o.W : Int) = ((3 + q.o.W : Nat) : Int) by omega]; refine (GV.out _ XD.out).mono ?_; rintro e w2 ⟨rfl, F2, K2⟩; obtain ⟨t1, t2⟩ := (HH.out.ext XD.out).free K2 F2; have cs2 := cells3 t1 HV.out LQ.out LA.out))
  have H2 := Lib.hid t1
  have R2 := Lib.hid ((RK.of_ext XD.out).trans t2)
  clear t1 t2 F2 K2 GV XD X1 x1 r1 r2 r3 c1' cs1 cs2
  have hcap : lq ≤ cap ∧ cap ≤ maxLen := by
    obtain ⟨A1, cc, e, b1, b2⟩ := own_form H2.out.row
    rw [HV.out, LQ.out] at e
    injection e with _ _ e
    rw [LQ.out] at b1
    omega
  obtain ⟨hcap1, hcap2⟩ := hcap
  unfold maxLen at hcap2
  have hlb : lq = la + 1 + B.length := by rw [← LQ.out, ← LA.out]; simp; omega
  have wr1 : IntKind.i64.wrap ((la : Int) + 1) = (la : Int) + 1 := IntWalk.i64_in _ (by omega)
  have S1 := oslice_to g lq cap la (by omega)
  have S2 := oslice_from g lq cap (la + 1) (by omega) hcap1
  rw [show ((la + 1 : Nat) : Int) = (la : Int) + 1 by omega] at S2
  have SA : SrcO w2 (some ⟨g, 0, none⟩) la (rowO A) := by
    have e := (HAt.srcs (A := A) (B := q :: B) H2.out (g := g) (cap := cap) (by rw [HV.out, LQ.out])).1
    rw [LA.out] at e; exact e
  have SB : SrcO w2 (some (tail9 g (la + 1) cap)) (lq - (la + 1)) (rowO B) := by
    have H3 : HAt w2 h f ib base n vL ((A ++ [q]) ++ B) (clr is q.o.k true (3 + q.o.W)) := by
      rw [List.append_assoc]; exact H2.out
    have e := (HAt.srcs (A := A ++ [q]) (B := B) H3 (g := g) (cap := cap) (by rw [HV.out, List.append_assoc, show A ++ ([q] ++ B) = A ++ q :: B from rfl, LQ.out])).2
    rw [show (A ++ [q]).length = la + 1 by rw [← LA.out]; simp, show B.length = lq - (la + 1) by omega] at e
    exact e
  have SAH := Lib.hid SA
  have SBH := Lib.hid SB
  have T0 : OneO w2 w2.drew (.slice none 0 0) 0 [] := OneO.nil _ _ (Ext.refl _).drew
  have HBK := Lib.hid H2.out.blk
  rw [HV.out] at HBK
  obtain ⟨r1, r2, r3⟩ := HBK.out.rules
  clear SA SB hlb
  go_wp2_with fail
  have X0 := Lib.hid ((Ext.refl w2).drew)
  have T0' := Lib.hid T0
  clear T0
  rename Hid (OneO w2 w2.drew (.slice none 0 0) 0 []) => T0
  refine wp_any_act (fun A' hA => ?_)
  have eA : A' = frDropReg w2 h g la lq cap (.slice none 0 0) 0 [] la (rowO A) (lq - (la + 1)) (rowO B) (fun q => A'.tmps.getD q undef) (fun q => A'.tmps.getD q undef) := by rw [hA]; rfl
  obtain ⟨uu, huu⟩ : ∃ uu, (fun q => A'.tmps.getD q undef) = uu := ⟨_, rfl⟩
  rw [huu] at eA
  clear hA huu
  subst eA
  refine wp_region_inv (Inv := DropRegInv w2 h g la lq cap (.slice none 0 0) 0 [] la (rowO A) (lq - (la + 1)) (rowO B) uu) (by kernel_rfl) ?_ ?_ ?_
  · refine ⟨fun _ => false, fun k => ?_, uu, rfl, by simp, ⟨fun _ => X0.out, ?_, ?_, ?_, ?_, fun _ => T0.out, ?_, ?_, ?_, ?_, ?_, ?_, ?_, ?_, ?_, ?_, ?_, ?_, ?_, ?_, ?_, ?_, ?_, ?_, ?_⟩⟩
    · rw [Array.getD_eq_getD_getElem?, Array.getElem?_replicate]; split <;> rfl
    all_goals (intro h; cases h)
  · rintro listed act w9 ii ⟨L, hL, s, rfl, hsz, I⟩ hi
    obtain ⟨hlt9, hnot, hdep⟩ := (ready_iff _ _).1 hi
    have hiN : ii < 19 := hlt9
    have casesN : ii = 0 ∨ ii = 1 ∨ ii = 2 ∨ ii = 3 ∨ ii = 4 ∨ ii = 5 ∨ ii = 6 ∨ ii = 7 ∨ ii = 8 ∨ ii = 9 ∨ ii = 10 ∨ ii = 11 ∨ ii = 12 ∨ ii = 13 ∨ ii = 14 ∨ ii = 15 ∨ ii = 16 ∨ ii = 17 ∨ ii = 18 := by omega
    have hn0 : L ii = false := by rw [← hL ii]; exact not_bit hnot
    clear hi hlt9 hnot
    unfold frDropReg
    rcases casesN with rfl | rfl | rfl | rfl | rfl | rfl | rfl | rfl | rfl | rfl | rfl | rfl | rfl | rfl | rfl | rfl | rfl | rfl | rfl
    · -- operation 0
      have nS : L 18 = false := by cases hh9 : L 18 with | false => rfl | true => exact (by rw [I.kS hh9 0 (by omega)] at hn0; cases hn0)
      refine wpOp_step rfl (fun K' hK => ?_)
      go_simp
      exact hK _ _ ⟨_, bit_set hL hsz 0 (by omega), fun jx => if jx = 26 then .pointer (some ⟨h, 0, none⟩) else s jx, by first | (simp [frDropReg]; done) | (simp [frDropReg]; rfl), by simpa using hsz, ⟨I.x, (fun h => absurd (show L 18 = true from h) (by rw [nS]; decide)), (fun h i hi => by simp [I.kN h i hi]), (fun h => by simp [I.kM h]), I.k12, I.o0, I.o1, I.o2, (fun h => absurd (show L 18 = true from h) (by rw [nS]; decide)), fun _ => rfl, I.v1, I.v2, I.v3, I.v4, I.v5, I.v6, I.v8, I.v9, I.v10, I.v11, I.v12, I.v13, I.v14, I.v16, I.v17⟩⟩
    · -- operation 1
      have nS : L 18 = false := by cases hh9 : L 18 with | false => rfl | true => exact (by rw [I.kS hh9 1 (by omega)] at hn0; cases hn0)
      refine wpOp_step rfl (fun K' hK => ?_)
      go_simp
      exact hK _ _ ⟨_, bit_set hL hsz 1 (by omega), fun jx => if jx = 27 then .pointer (some ⟨h, 0, none⟩) else s jx, by first | (simp [frDropReg]; done) | (simp [frDropReg]; rfl), by simpa using hsz, ⟨I.x, (fun h => absurd (show L 18 = true from h) (by rw [nS]; decide)), (fun h i hi => by simp [I.kN h i hi]), (fun h => by simp [I.kM h]), I.k12, I.o0, I.o1, I.o2, (fun h => absurd (show L 18 = true from h) (by rw [nS]; decide)), I.v0, fun _ => rfl, I.v2, I.v3, I.v4, I.v5, I.v6, I.v8, I.v9, I.v10, I.v11, I.v12, I.v13, I.v14, I.v16, I.v17⟩⟩
    · -- operation 2
      simp [hL, Region.binds] at hdep
      have d1 : L 1 = true := by simp [hdep]
      have nS : L 18 = false := by cases hh9 : L 18 with | false => rfl | true => exact (by rw [I.kS hh9 2 (by omega)] at hn0; cases hn0)
      have e1 := I.v1 d1
      refine wpOp_step rfl (fun K' hK => ?_)
      rw [e1]
      go_simp
      exact hK _ _ ⟨_, bit_set hL hsz 2 (by omega), fun jx => if jx = 28 then .pointer (some ⟨h, 0, none⟩) else s jx, by first | (simp [frDropReg, e1]; done) | (simp [frDropReg, e1]; rfl), by simpa using hsz, ⟨I.x, (fun h => absurd (show L 18 = true from h) (by rw [nS]; decide)), (fun h i hi => by simp [I.kN h i hi]), (fun h => by simp [I.kM h]), I.k12, I.o0, I.o1, I.o2, (fun h => absurd (show L 18 = true from h) (by rw [nS]; decide)), I.v0, I.v1, fun _ => rfl, I.v3, I.v4, I.v5, I.v6, I.v8, I.v9, I.v10, I.v11, I.v12, I.v13, I.v14, I.v16, I.v17⟩⟩
    · -- operation 3
      simp [hL, Region.binds] at hdep
      have d2 : L 2 = true := by simp [hdep]
      have nS : L 18 = false := by cases hh9 : L 18 with | false => rfl | true => exact (by rw [I.kS hh9 3 (by omega)] at hn0; cases hn0)
      have e2 := I.v2 d2
      refine wpOp_step rfl (fun K' hK => ?_)
      rw [e2]
      go_simp
      exact hK _ _ ⟨_, bit_set hL hsz 3 (by omega), fun jx => if jx = 29 then .pointer (some ⟨h, 0, none⟩) else s jx, by first | (simp [frDropReg, e2]; done) | (simp [frDropReg, e2]; rfl), by simpa using hsz, ⟨I.x, (fun h => absurd (show L 18 = true from h) (by rw [nS]; decide)), (fun h i hi => by simp [I.kN h i hi]), (fun h => by simp [I.kM h]), I.k12, I.o0, I.o1, I.o2, (fun h => absurd (show L 18 = true from h) (by rw [nS]; decide)), I.v0, I.v1, I.v2, fun _ => rfl, I.v4, I.v5, I.v6, I.v8, I.v9, I.v10, I.v11, I.v12, I.v13, I.v14, I.v16, I.v17⟩⟩
    · -- operation 4
      simp [hL, Region.binds] at hdep
      have d3 : L 3 = true := by simp [hdep]
      have nS : L 18 = false := by cases hh9 : L 18 with | false => rfl | true => exact (by rw [I.kS hh9 4 (by omega)] at hn0; cases hn0)
      have e3 := I.v3 d3
      obtain ⟨g1, g2, g3⟩ := (HBK.out.ext (I.x nS)).rules
      refine wpOp_step rfl (fun K' hK => ?_)
      rw [e3]
      go_simp
      exact hK _ _ ⟨_, bit_set hL hsz 4 (by omega), fun jx => if jx = 30 then .slice (some ⟨g, 0, none⟩) lq cap else s jx, by first | (simp [frDropReg, e3]; done) | (simp [frDropReg, e3]; rfl), by simpa using hsz, ⟨I.x, (fun h => absurd (show L 18 = true from h) (by rw [nS]; decide)), (fun h i hi => by simp [I.kN h i hi]), (fun h => by simp [I.kM h]), I.k12, I.o0, I.o1, I.o2, (fun h => absurd (show L 18 = true from h) (by rw [nS]; decide)), I.v0, I.v1, I.v2, I.v3, fun _ => rfl, I.v5, I.v6, I.v8, I.v9, I.v10, I.v11, I.v12, I.v13, I.v14, I.v16, I.v17⟩⟩
    · -- operation 5
      have nS : L 18 = false := by cases hh9 : L 18 with | false => rfl | true => exact (by rw [I.kS hh9 5 (by omega)] at hn0; cases hn0)
      refine wpOp_step rfl (fun K' hK => ?_)
      go_simp
      exact hK _ _ ⟨_, bit_set hL hsz 5 (by omega), fun jx => if jx = 31 then .int .i64 (la : Int) else s jx, by first | (simp [frDropReg]; done) | (simp [frDropReg]; rfl), by simpa using hsz, ⟨I.x, (fun h => absurd (show L 18 = true from h) (by rw [nS]; decide)), (fun h i hi => by simp [I.kN h i hi]), (fun h => by simp [I.kM h]), I.k12, I.o0, I.o1, I.o2, (fun h => absurd (show L 18 = true from h) (by rw [nS]; decide)), I.v0, I.v1, I.v2, I.v3, I.v4, fun _ => rfl, I.v6, I.v8, I.v9, I.v10, I.v11, I.v12, I.v13, I.v14, I.v16, I.v17⟩⟩
    · -- operation 6
      simp [hL, Region.binds] at hdep
      have d4 : L 4 = true := by simp [hdep]
      have d5 : L 5 = true := by simp [hdep]
      have nS : L 18 = false := by cases hh9 : L 18 with | false => rfl | true => exact (by rw [I.kS hh9 6 (by omega)] at hn0; cases hn0)
      have e4 := I.v4 d4
      have e5 := I.v5 d5
      refine wpOp_step rfl (fun K' hK => ?_)
      rw [e4, e5]
      go_simp
      exact hK _ _ ⟨_, bit_set hL hsz 6 (by omega), fun jx => if jx = 32 then .slice (some ⟨g, 0, none⟩) la cap else s jx, by first | (simp [frDropReg, e4, e5]; done) | (simp [frDropReg, e4, e5]; rfl), by simpa using hsz, ⟨I.x, (fun h => absurd (show L 18 = true from h) (by rw [nS]; decide)), (fun h i hi => by simp [I.kN h i hi]), (fun h => by simp [I.kM h]), I.k12, I.o0, I.o1, I.o2, (fun h => absurd (show L 18 = true from h) (by rw [nS]; decide)), I.v0, I.v1, I.v2, I.v3, I.v4, I.v5, fun _ => rfl, I.v8, I.v9, I.v10, I.v11, I.v12, I.v13, I.v14, I.v16, I.v17⟩⟩
    · -- operation 7
      simp [hL, Region.binds] at hdep
      have d6 : L 6 = true := by simp [hdep]
      have nS : L 18 = false := by cases hh9 : L 18 with | false => rfl | true => exact (by rw [I.kS hh9 7 (by omega)] at hn0; cases hn0)
      have n2 : L 15 = false := by cases hh9 : L 15 with | false => rfl | true => exact (by rw [I.k12 hh9] at hn0; cases hn0)
      have e6 := I.v6 d6
      have TT := I.o0 hn0
      have SS : SrcO w9 (some ⟨g, 0, none⟩) la (rowO A) := SAH.out.ext (I.x nS)
      refine wpOp_step rfl (fun K' hK => ?_)
      try rw [e6]
      refine step_O (.const (.slice none 0 0)) (.tmp 32) (by rfl) (by rfl) (by rfl) (by rfl) TT SS (by omega) ?_
      intro v9 w10 T9
      exact hK _ _ ⟨_, bit_set hL hsz 7 (by omega), fun jx => if jx = 33 then v9 else s jx, by first | (simp [frDropReg, Act.put, e6]; done) | (simp [frDropReg, Act.put, e6]; rfl), by simpa using hsz, ⟨(fun _ => T9.x), (fun h => absurd (show L 18 = true from h) (by rw [nS]; decide)), (fun h i hi => by simp [I.kN h i hi]), (fun h => by simp [I.kM h]), (fun h => absurd (show L 15 = true from h) (by rw [n2]; decide)), (fun h => absurd h (by simp)), (fun _ _ => T9), (fun h => absurd (show L 15 = true from h) (by rw [n2]; decide)), (fun h => absurd (show L 18 = true from h) (by rw [nS]; decide)), I.v0, I.v1, I.v2, I.v3, I.v4, I.v5, I.v6, I.v8, I.v9, I.v10, I.v11, I.v12, I.v13, I.v14, I.v16, I.v17⟩⟩
    · -- operation 8
      have nS : L 18 = false := by cases hh9 : L 18 with | false => rfl | true => exact (by rw [I.kS hh9 8 (by omega)] at hn0; cases hn0)
      refine wpOp_step rfl (fun K' hK => ?_)
      go_simp
      exact hK _ _ ⟨_, bit_set hL hsz 8 (by omega), fun jx => if jx = 34 then .pointer (some ⟨h, 0, none⟩) else s jx, by first | (simp [frDropReg]; done) | (simp [frDropReg]; rfl), by simpa using hsz, ⟨I.x, (fun h => absurd (show L 18 = true from h) (by rw [nS]; decide)), (fun h i hi => by simp [I.kN h i hi]), (fun h => by simp [I.kM h]), I.k12, I.o0, I.o1, I.o2, (fun h => absurd (show L 18 = true from h) (by rw [nS]; decide)), I.v0, I.v1, I.v2, I.v3, I.v4, I.v5, I.v6, fun _ => rfl, I.v9, I.v10, I.v11, I.v12, I.v13, I.v14, I.v16, I.v17⟩⟩
    · -- operation 9
      simp [hL, Region.binds] at hdep
      have d8 : L 8 = true := by simp [hdep]
      have nS : L 18 = false := by cases hh9 : L 18 with | false => rfl | true => exact (by rw [I.kS hh9 9 (by omega)] at hn0; cases hn0)
      have e8 := I.v8 d8
      refine wpOp_step rfl (fun K' hK => ?_)
      rw [e8]
      go_simp
      exact hK _ _ ⟨_, bit_set hL hsz 9 (by omega), fun jx => if jx = 35 then .pointer (some ⟨h, 0, none⟩) else s jx, by first | (simp [frDropReg, e8]; done) | (simp [frDropReg, e8]; rfl), by simpa using hsz, ⟨I.x, (fun h => absurd (show L 18 = true from h) (by rw [nS]; decide)), (fun h i hi => by simp [I.kN h i hi]), (fun h => by simp [I.kM h]), I.k12, I.o0, I.o1, I.o2, (fun h => absurd (show L 18 = true from h) (by rw [nS]; decide)), I.v0, I.v1, I.v2, I.v3, I.v4, I.v5, I.v6, I.v8, fun _ => rfl, I.v10, I.v11, I.v12, I.v13, I.v14, I.v16, I.v17⟩⟩
    · -- operation 10
      simp [hL, Region.binds] at hdep
      have d9 : L 9 = true := by simp [hdep]
      have nS : L 18 = false := by cases hh9 : L 18 with | false => rfl | true => exact (by rw [I.kS hh9 10 (by omega)] at hn0; cases hn0)
      have e9 := I.v9 d9
      refine wpOp_step rfl (fun K' hK => ?_)
      rw [e9]
      go_simp
      exact hK _ _ ⟨_, bit_set hL hsz 10 (by omega), fun jx => if jx = 36 then .pointer (some ⟨h, 0, none⟩) else s jx, by first | (simp [frDropReg, e9]; done) | (simp [frDropReg, e9]; rfl), by simpa using hsz, ⟨I.x, (fun h => absurd (show L 18 = true from h) (by rw [nS]; decide)), (fun h i hi => by simp [I.kN h i hi]), (fun h => by simp [I.kM h]), I.k12, I.o0, I.o1, I.o2, (fun h => absurd (show L 18 = true from h) (by rw [nS]; decide)), I.v0, I.v1, I.v2, I.v3, I.v4, I.v5, I.v6, I.v8, I.v9, fun _ => rfl, I.v11, I.v12, I.v13, I.v14, I.v16, I.v17⟩⟩
    · -- operation 11
      simp [hL, Region.binds] at hdep
      have d10 : L 10 = true := by simp [hdep]
      have nS : L 18 = false := by cases hh9 : L 18 with | false => rfl | true => exact (by rw [I.kS hh9 11 (by omega)] at hn0; cases hn0)
      have e10 := I.v10 d10
      obtain ⟨g1, g2, g3⟩ := (HBK.out.ext (I.x nS)).rules
      refine wpOp_step rfl (fun K' hK => ?_)
      rw [e10]
      go_simp
      exact hK _ _ ⟨_, bit_set hL hsz 11 (by omega), fun jx => if jx = 37 then .slice (some ⟨g, 0, none⟩) lq cap else s jx, by first | (simp [frDropReg, e10]; done) | (simp [frDropReg, e10]; rfl), by simpa using hsz, ⟨I.x, (fun h => absurd (show L 18 = true from h) (by rw [nS]; decide)), (fun h i hi => by simp [I.kN h i hi]), (fun h => by simp [I.kM h]), I.k12, I.o0, I.o1, I.o2, (fun h => absurd (show L 18 = true from h) (by rw [nS]; decide)), I.v0, I.v1, I.v2, I.v3, I.v4, I.v5, I.v6, I.v8, I.v9, I.v10, fun _ => rfl, I.v12, I.v13, I.v14, I.v16, I.v17⟩⟩
    · -- operation 12
      have nS : L 18 = false := by cases hh9 : L 18 with | false => rfl | true => exact (by rw [I.kS hh9 12 (by omega)] at hn0; cases hn0)
      refine wpOp_step rfl (fun K' hK => ?_)
      go_simp
      exact hK _ _ ⟨_, bit_set hL hsz 12 (by omega), fun jx => if jx = 38 then .int .i64 (la : Int) else s jx, by first | (simp [frDropReg]; done) | (simp [frDropReg]; rfl), by simpa using hsz, ⟨I.x, (fun h => absurd (show L 18 = true from h) (by rw [nS]; decide)), (fun h i hi => by simp [I.kN h i hi]), (fun h => by simp [I.kM h]), I.k12, I.o0, I.o1, I.o2, (fun h => absurd (show L 18 = true from h) (by rw [nS]; decide)), I.v0, I.v1, I.v2, I.v3, I.v4, I.v5, I.v6, I.v8, I.v9, I.v10, I.v11, fun _ => rfl, I.v13, I.v14, I.v16, I.v17⟩⟩
    · -- operation 13
      simp [hL, Region.binds] at hdep
      have d12 : L 12 = true := by simp [hdep]
      have nS : L 18 = false := by cases hh9 : L 18 with | false => rfl | true => exact (by rw [I.kS hh9 13 (by omega)] at hn0; cases hn0)
      have e12 := I.v12 d12
      refine wpOp_step rfl (fun K' hK => ?_)
      rw [e12]
      go_simp
      exact hK _ _ ⟨_, bit_set hL hsz 13 (by omega), fun jx => if jx = 39 then .int .i64 ((la : Int) + 1) else s jx, by first | (simp [frDropReg, e12]; done) | (simp [frDropReg, e12]; rfl), by simpa using hsz, ⟨I.x, (fun h => absurd (show L 18 = true from h) (by rw [nS]; decide)), (fun h i hi => by simp [I.kN h i hi]), (fun h => by simp [I.kM h]), I.k12, I.o0, I.o1, I.o2, (fun h => absurd (show L 18 = true from h) (by rw [nS]; decide)), I.v0, I.v1, I.v2, I.v3, I.v4, I.v5, I.v6, I.v8, I.v9, I.v10, I.v11, I.v12, fun _ => rfl, I.v14, I.v16, I.v17⟩⟩
    · -- operation 14
      simp [hL, Region.binds] at hdep
      have d11 : L 11 = true := by simp [hdep]
      have d13 : L 13 = true := by simp [hdep]
      have nS : L 18 = false := by cases hh9 : L 18 with | false => rfl | true => exact (by rw [I.kS hh9 14 (by omega)] at hn0; cases hn0)
      have e11 := I.v11 d11
      have e13 := I.v13 d13
      refine wpOp_step rfl (fun K' hK => ?_)
      rw [e11, e13]
      go_simp
      exact hK _ _ ⟨_, bit_set hL hsz 14 (by omega), fun jx => if jx = 40 then .slice (some (tail9 g (la + 1) cap)) (lq - (la + 1)) (cap - (la + 1)) else s jx, by first | (simp [frDropReg, e11, e13]; done) | (simp [frDropReg, e11, e13]; rfl), by simpa using hsz, ⟨I.x, (fun h => absurd (show L 18 = true from h) (by rw [nS]; decide)), (fun h i hi => by simp [I.kN h i hi]), (fun h => by simp [I.kM h]), I.k12, I.o0, I.o1, I.o2, (fun h => absurd (show L 18 = true from h) (by rw [nS]; decide)), I.v0, I.v1, I.v2, I.v3, I.v4, I.v5, I.v6, I.v8, I.v9, I.v10, I.v11, I.v12, I.v13, fun _ => rfl, I.v16, I.v17⟩⟩
    · -- operation 15
      simp [hL, Region.binds] at hdep
      have d7 : L 7 = true := by simp [hdep]
      have d14 : L 14 = true := by simp [hdep]
      have nS : L 18 = false := by cases hh9 : L 18 with | false => rfl | true => exact (by rw [I.kS hh9 15 (by omega)] at hn0; cases hn0)
      have e14 := I.v14 d14
      have TT := I.o1 d7 hn0
      have SS := SBH.out.ext (I.x nS)
      refine wpOp_step rfl (fun K' hK => ?_)
      try rw [e14]
      refine step_O (.tmp 33) (.tmp 40) (by rfl) (by rfl) (by rfl) (by rfl) TT SS (by omega) ?_
      intro v9 w10 T9
      exact hK _ _ ⟨_, bit_set hL hsz 15 (by omega), fun jx => if jx = 41 then v9 else s jx, by first | (simp [frDropReg, Act.put, e14]; done) | (simp [frDropReg, Act.put, e14]; rfl), by simpa using hsz, ⟨(fun _ => T9.x), (fun h => absurd (show L 18 = true from h) (by rw [nS]; decide)), (fun h i hi => by simp [I.kN h i hi]), (fun h => by simp [I.kM h]), (fun _ => d7), (fun h => absurd (show L 7 = false from h) (by rw [d7]; decide)), (fun _ h => absurd h (by simp)), (fun _ _ => T9), (fun h => absurd (show L 18 = true from h) (by rw [nS]; decide)), I.v0, I.v1, I.v2, I.v3, I.v4, I.v5, I.v6, I.v8, I.v9, I.v10, I.v11, I.v12, I.v13, I.v14, I.v16, I.v17⟩⟩
    · -- operation 16
      have NALL : ∀ i, i < 16 → L i = true := by
        intro i hi9
        simp [hL, Region.binds] at hdep
        rcases (show i = 0 ∨ i = 1 ∨ i = 2 ∨ i = 3 ∨ i = 4 ∨ i = 5 ∨ i = 6 ∨ i = 7 ∨ i = 8 ∨ i = 9 ∨ i = 10 ∨ i = 11 ∨ i = 12 ∨ i = 13 ∨ i = 14 ∨ i = 15 by omega) with rfl | rfl | rfl | rfl | rfl | rfl | rfl | rfl | rfl | rfl | rfl | rfl | rfl | rfl | rfl | rfl <;> simp [hdep]
      simp [hL, Region.binds] at hdep
      have d0 : L 0 = true := by simp [hdep]
      have nS : L 18 = false := by cases hh9 : L 18 with | false => rfl | true => exact (by rw [I.kS hh9 16 (by omega)] at hn0; cases hn0)
      have e0 := I.v0 d0
      refine wpOp_step rfl (fun K' hK => ?_)
      rw [e0]
      go_simp
      exact hK _ _ ⟨_, bit_set hL hsz 16 (by omega), fun jx => if jx = 42 then .pointer (some ⟨h, 0, none⟩) else s jx, by first | (simp [frDropReg, e0]; done) | (simp [frDropReg, e0]; rfl), by simpa using hsz, ⟨I.x, (fun h => absurd (show L 18 = true from h) (by rw [nS]; decide)), (fun _ i hi => by simp [NALL i hi]), (fun _ => rfl), I.k12, I.o0, I.o1, I.o2, (fun h => absurd (show L 18 = true from h) (by rw [nS]; decide)), I.v0, I.v1, I.v2, I.v3, I.v4, I.v5, I.v6, I.v8, I.v9, I.v10, I.v11, I.v12, I.v13, I.v14, fun _ => rfl, I.v17⟩⟩
    · -- operation 17
      simp [hL, Region.binds] at hdep
      have d16 : L 16 = true := by simp [hdep]
      have nS : L 18 = false := by cases hh9 : L 18 with | false => rfl | true => exact (by rw [I.kS hh9 17 (by omega)] at hn0; cases hn0)
      have e16 := I.v16 d16
      refine wpOp_step rfl (fun K' hK => ?_)
      rw [e16]
      go_simp
      exact hK _ _ ⟨_, bit_set hL hsz 17 (by omega), fun jx => if jx = 43 then .pointer (some ⟨h, 0, none⟩) else s jx, by first | (simp [frDropReg, e16]; done) | (simp [frDropReg, e16]; rfl), by simpa using hsz, ⟨I.x, (fun h => absurd (show L 18 = true from h) (by rw [nS]; decide)), (fun h i hi => by simp [I.kN h i hi]), (fun _ => d16), I.k12, I.o0, I.o1, I.o2, (fun h => absurd (show L 18 = true from h) (by rw [nS]; decide)), I.v0, I.v1, I.v2, I.v3, I.v4, I.v5, I.v6, I.v8, I.v9, I.v10, I.v11, I.v12, I.v13, I.v14, I.v16, fun _ => rfl⟩⟩
    · -- operation 18
      simp [hL, Region.binds] at hdep
      have d15 : L 15 = true := by simp [hdep]
      have d17 : L 17 = true := by simp [hdep]
      have e17 := I.v17 d17
      have DALL : ∀ i, i < 18 → L i = true := by
        intro i hi9
        have dN := I.kM d17
        rcases (show i < 16 ∨ i = 16 ∨ i = 17 by omega) with h9 | rfl | rfl
        · exact I.kN dN i h9
        · exact dN
        · exact d17
      have TT := I.o2 d15 hn0
      obtain ⟨A9, c9, hv9, _, _⟩ := own_form TT.own
      obtain ⟨g1, g2, g3⟩ := (HBK.out.ext (I.x hn0)).rules
      refine wpOp_step rfl (fun K' hK => ?_)
      rw [hv9, e17]
      go_simp
      exact hK _ _ ⟨_, bit_set hL hsz 18 (by omega), s, by first | (simp [frDropReg, e17, hv9]; done) | (simp [frDropReg, e17, hv9]; rfl), by simpa using hsz, ⟨(fun h => absurd h (by simp)), (fun _ i hi => by simp [DALL i hi]), (fun h i hi => by simp [I.kN h i hi]), (fun h => by simp [I.kM h]), I.k12, (fun h => absurd (show L 7 = false from h) (by rw [DALL 7 (by omega)]; decide)), (fun _ h => absurd (show L 15 = false from h) (by rw [d15]; decide)), (fun _ h => absurd h (by simp)), (fun _ => ⟨_, w9, TT, by first | (rw [hv9]; done) | (rw [hv9]; rfl) | (rw [hv9]; simp; done) | (rw [hv9]; simp only [Nat.zero_add])⟩), I.v0, I.v1, I.v2, I.v3, I.v4, I.v5, I.v6, I.v8, I.v9, I.v10, I.v11, I.v12, I.v13, I.v14, I.v16, I.v17⟩⟩
  · rintro listed act w9 ⟨L, hL, s, rfl, hsz, I⟩ hr
    have ALL : ∀ i, i < 19 → L i = true := fun i hi => by rw [← hL i]; exact all_listed (by kernel_rfl) hsz hr i hi
    obtain ⟨v9, w10, T9, rfl⟩ := I.es (ALL 18 (by omega))
    clear hL ALL hr hsz I
    unfold frDropReg
    dsimp only
    have el : (A ++ B).length = 0 + la + (lq - (la + 1)) := by
      have e1 := LQ.out
      have e2 := LA.out
      simp at e1 ⊢
      omega
    have sub : (A ++ B).Sublist (A ++ q :: B) := (List.Sublist.refl A).append (List.sublist_cons_self q B)
    have fewH := H2.out.few
    obtain ⟨t1, t2⟩ := H2.out.relist (Q' := A ++ B) T9.x (by have := T9.own; rw [List.nil_append, ← rowO_app] at this; rw [el]; exact this) (fun p hp => own_keep (H2.out.fs p (sub.subset hp)) (Keep.of_ext T9.x (fun _ => False)) (fun _ _ h => h)) (fun p hp => own_keep (H2.out.bs p (sub.subset hp)) (Keep.of_ext T9.x (fun _ => False)) (fun _ _ h => h)) (H2.out.apF.sublist sub) (H2.out.apB.sublist sub) (Nat.le_trans sub.length_le fewH)
    have Z1 := Lib.hid t1
    have Z2 := Lib.hid (R2.out.trans t2)
    clear t1 t2 T9 sub el
    go_wp2_with fail
    go_ret
    exact ⟨rfl, ⟨_, Z1.out⟩, Z2.out⟩
end
end Go.Proofs.Ytjpalcejmloocaa.RefHeap
