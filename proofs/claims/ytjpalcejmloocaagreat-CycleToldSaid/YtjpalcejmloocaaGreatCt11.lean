/-
  Image8, as one text (a claim has at most 60 files).
-/
import Derived.Test.YtjpalcejmloocaaGreatCt09
import Derived.Test.YtjpalcejmloocaaGreatCt10
namespace Go.Proofs.YtjpalcejmloocaaGreat.World
open Go.RowKit Go.Proofs.YtjpalcejmloocaaGreat.Plain
set_option linter.unusedVariables false
attribute [local go_sem ↓] Go.wp_at_zero Go.wp_at_succ

def cellsR (R : PR) (re wa du sn : Value) : Array Value := #[.int .i64 R.proc, .int .i64 R.frame, re, wa, du, .string R.out, .string R.inp, .int .i64 R.how, .int .i64 R.exit, sn]
def cI (l : List Int) : Nat → Nat → Value := fun i _ => .int .i64 (l.getD i 0)
def cWs (l : List (Int × Int)) : Nat → Nat → Value := fun i j => cW (wAt l i) j
def cS (l : List ByteArray) : Nat → Nat → Value := fun i _ => .string (sAt l i)
def Apart (v u : Value) : Prop := ∀ k, v.ownBlock = some k → u.ownBlock ≠ some k
structure RegsNew (w : World) (base : Nat) (R : PR) (re wa du sn : Value) : Prop where
  ap : Apart re du
  re : Own w base 3 re R.ready.length 1 (cI R.ready)
  wa : Own w base 96 wa R.wait.length 2 (cWs R.wait)
  du : Own w base 3 du R.due.length 1 (cI R.due)
  sn : Own w base 9 sn R.snaps.length 1 (cS R.snaps)
theorem Own.base {w : World} {b b' : Nat} {e : TypeId} {v : Value} {n sz : Nat} {c : Nat → Nat → Value} (h : Own w b e v n sz c) (hb : b' ≤ b) : Own w b' e v n sz c := by
  have h : w.ownsRow b e sz v n (flat n sz c) := h
  refine ⟨h.1, ?_⟩
  rcases h.2 with hn | ⟨g, cap, cur, e1, h1, rest⟩
  · exact .inl hn
  · exact .inr ⟨g, cap, cur, e1, Nat.le_trans hb h1, rest⟩
theorem Own.set {w : World} {b rb i : Nat} {e T : TypeId} {v u : Value} {n sz : Nat} {c : Nat → Nat → Value} {cs : Array Value} (h : Own w b e v n sz c) (hb : Blk w rb T cs) (hne : e ≠ T) : Own (w.setCell ⟨rb, i, none⟩ u) b e v n sz c := by
  have h : w.ownsRow b e sz v n (flat n sz c) := h
  refine ⟨h.1, ?_⟩
  rcases h.2 with hn | ⟨g, cap, cur, e1, h1, hg, rest⟩
  · exact .inl hn
  · exact .inr ⟨g, cap, cur, e1, h1, Blk.far (show Blk w g e cur from hg) (p := ⟨rb, i, none⟩) ((show Blk w g e cur from hg).ne hb hne) u, rest⟩
theorem Own.keep {w w' : World} {b pb : Nat} {e T : TypeId} {v : Value} {n sz : Nat} {c : Nat → Nat → Value} {cs : Array Value} (h : Own w b e v n sz c) (k : Keep (· = pb) w w') (hb : Blk w pb T cs) (hne : e ≠ T) : Own w' b e v n sz c := by
  have h : w.ownsRow b e sz v n (flat n sz c) := h
  refine ⟨h.1, ?_⟩
  rcases h.2 with hn | ⟨g, cap, cur, e1, h1, hg, rest⟩
  · exact .inl hn
  · exact .inr ⟨g, cap, cur, e1, h1, Blk.keep (show Blk w g e cur from hg) k ((show Blk w g e cur from hg).ne hb hne), rest⟩
theorem RegsNew.keep {w w' : World} {base pb : Nat} {R : PR} {re wa du sn : Value} {cs : Array Value} (h : RegsNew w base R re wa du sn) (k : Keep (· = pb) w w') (hb : Blk w pb 29 cs) : RegsNew w' base R re wa du sn :=
  ⟨h.ap, h.re.keep k hb (by decide), h.wa.keep k hb (by decide), h.du.keep k hb (by decide), h.sn.keep k hb (by decide)⟩
theorem Own.form {w : World} {b : Nat} {e : TypeId} {v : Value} {n sz : Nat} {c : Nat → Nat → Value} (h : Own w b e v n sz c) : ∃ A cap, v = .slice A n cap := by
  have h : w.ownsRow b e sz v n (flat n sz c) := h
  rcases h.2 with ⟨rfl, h0⟩ | ⟨g, cap, cur, e1, _⟩
  · exact ⟨none, 0, by rw [h0]⟩
  · exact ⟨_, _, e1⟩
/-- a new slice lies apart from an elder one -/
theorem Own.apart {w w3 : World} {b : Nat} {e e' : TypeId} {v u : Value} {n sz n' sz' : Nat} {c c' : Nat → Nat → Value} (h : Own w3 w.heap.size e v n sz c) (k : Own w b e' u n' sz' c') : Apart v u := by
  intro g hg hu
  have h : w3.ownsRow w.heap.size e sz v n (flat n sz c) := h
  have k : w.ownsRow b e' sz' u n' (flat n' sz' c') := k
  rcases h.2 with ⟨rfl, _⟩ | ⟨g1, cap, cur, rfl, h1, _⟩
  · cases hg
  · rcases k.2 with ⟨rfl, _⟩ | ⟨g2, cap2, cur2, rfl, h2, hb2, _⟩
    · cases hu
    · simp [Value.ownBlock] at hg hu
      have := (show Blk w g2 e' cur2 from hb2).lt
      omega
theorem Apart.symm {v u : Value} (h : Apart v u) : Apart u v := fun k h1 h2 => h k h2 h1
theorem listed_bit {listed : Array Bool} {L : Nat → Bool} (h : ∀ k, listed.getD k false = L k) (k : Nat) : listed.getD k false = L k := h k
theorem not_bit {listed : Array Bool} {i : Nat} (h : listed.getD i true = false) : listed.getD i false = false := by
  rw [Array.getD_eq_getD_getElem?] at h ⊢
  cases hq : listed[i]? with
  | none => rfl
  | some b => rw [hq] at h; exact h
theorem bit_set {listed : Array Bool} {L : Nat → Bool} (h : ∀ k, listed.getD k false = L k) {n : Nat} (hs : listed.size = n) (i : Nat) (hi : i < n) : ∀ k, (listed.setIfInBounds i true).getD k false = (if k = i then true else L k) := by
  intro k
  rw [listed_set listed i k (by omega), h k]
  by_cases e : i = k
  · subst e; simp
  · have : k ≠ i := fun e' => e e'.symm
    simp [e, this]
/-- what holds behind any part of the region -/
structure RI (w0 : World) (rb pb : Nat) (R : PR) (re wa du sn : Value) (L : Nat → Bool) (s : Nat → Value) (w : World) : Prop where
  x : Ext w0 w
  p0 : L 0 = true → s 3 = .pointer (some ⟨rb, 2, none⟩)
  p3 : L 3 = true → s 6 = .pointer (some ⟨rb, 3, none⟩)
  p6 : L 6 = true → s 9 = .pointer (some ⟨rb, 4, none⟩)
  p9 : L 9 = true → s 12 = .pointer (some ⟨rb, 9, none⟩)
  l1 : L 1 = true → s 4 = re
  l4 : L 4 = true → s 7 = wa
  l7 : L 7 = true → s 10 = du
  l10 : L 10 = true → s 13 = sn
  o2 : L 2 = true → Own w w0.heap.size 3 (s 5) R.ready.length 1 (cI R.ready)
  o5 : L 5 = true → Own w w0.heap.size 96 (s 8) R.wait.length 2 (cWs R.wait)
  o8 : L 8 = true → Own w w0.heap.size 3 (s 11) R.due.length 1 (cI R.due)
  o11 : L 11 = true → Own w w0.heap.size 9 (s 14) R.snaps.length 1 (cS R.snaps)
  q12 : L 12 = true → s 15 = .pointer (some ⟨rb, 2, none⟩)
  q14 : L 14 = true → s 16 = .pointer (some ⟨rb, 3, none⟩)
  q16 : L 16 = true → s 17 = .pointer (some ⟨rb, 4, none⟩)
  q18 : L 18 = true → s 18 = .pointer (some ⟨rb, 9, none⟩)
  ap : L 2 = true → L 8 = true → Apart (s 5) (s 11)
  bx : Blk w rb 29 (cellsR R (if L 13 then s 5 else re) (if L 15 then s 8 else wa) (if L 17 then s 11 else du) (if L 19 then s 14 else sn))
  k13 : L 13 = true → L 1 = true
  k15 : L 15 = true → L 4 = true
  k17 : L 17 = true → L 7 = true
  k19 : L 19 = true → L 10 = true
  m13 : L 13 = true → L 2 = true
  m15 : L 15 = true → L 5 = true
  m17 : L 17 = true → L 8 = true
  m19 : L 19 = true → L 11 = true
  bp : Blk w pb 29 #[.int .i64 0, .int .i64 0, .slice none 0 0, .slice none 0 0, .slice none 0 0, .string ⟨#[]⟩, .string ⟨#[]⟩, .int .i64 0, .int .i64 0, .slice none 0 0]
def frameR (R : PR) (re wa du sn : Value) (rb pb : Nat) (s : Nat → Value) : Act := { tmps := #[.agg (cellsR R re wa du sn), .pointer (some ⟨rb, 0, none⟩), .pointer (some ⟨pb, 0, none⟩), s 3, s 4, s 5, s 6, s 7, s 8, s 9, s 10, s 11, s 12, s 13, s 14, s 15, s 16, s 17, s 18, undef], defers := [] }
def RInv (w0 : World) (rb pb : Nat) (R : PR) (re wa du sn : Value) (listed : Array Bool) (a : Act) (w : World) : Prop :=
  ∃ L : Nat → Bool, (∀ k, listed.getD k false = L k) ∧ ∃ s : Nat → Value, a = frameR R re wa du sn rb pb s ∧ listed.size = 20 ∧ RI w0 rb pb R re wa du sn L s w
section
variable {w : World}
set_option maxRecDepth 100000 in
set_option maxHeartbeats 8000000 in
theorem cregs {R : PR} {re wa du sn : Value} (h1 : Row w re R.ready.length 1 (cI R.ready)) (h2 : Row w wa R.wait.length 2 (cWs R.wait)) (h3 : Row w du R.due.length 1 (cI R.due)) (h4 : Row w sn R.snaps.length 1 (cS R.snaps)) (m1 : R.ready.length ≤ 1000000) (m2 : R.wait.length ≤ 1000000) (m3 : R.due.length ≤ 1000000) (m4 : R.snaps.length ≤ 1000000) :
    Calls Tryz.prog 26 #[.agg (cellsR R re wa du sn)] w fun e w' => (∃ re' wa' du' sn', e = .returned (.agg (cellsR R re' wa' du' sn')) ∧ RegsNew w' w.heap.size R re' wa' du' sn') ∧ Ext w w' := by
  obtain ⟨A1, c1, rfl, l1, l1'⟩ := h1.form
  obtain ⟨A2, c2, rfl, l2, l2'⟩ := h2.form
  obtain ⟨A3, c3, rfl, l3, l3'⟩ := h3.form
  obtain ⟨A4, c4, rfl, l4, l4'⟩ := h4.form
  unfold cellsR
  go_enter Tryz.func26, Tryz.ntmps26
  go_wp2_with fail
  refine wp_name (fun W1 hW => ?_)
  have BX : Blk W1 w.heap.size 29 (cellsR R (.slice A1 R.ready.length c1) (.slice A2 R.wait.length c2) (.slice A3 R.due.length c3) (.slice A4 R.snaps.length c4)) := (Blk.new w _ _).alloc' hW
  have BP := Blk.new' hW
  have X0 := ((Ext.refl w).alloc _).alloc' hW
  simp only [World.size_alloc] at BP
  clear hW
  generalize hrb : w.heap.size = rb at *
  have rb0 : w.heap.size ≤ rb := by omega
  generalize hpb : rb + 1 = pb at *
  have hne : pb ≠ rb := by omega
  have hpb0 : w.heap.size ≤ pb := by omega
  clear hpb
  refine wp_region_inv (Inv := RInv w rb pb R (.slice A1 R.ready.length c1) (.slice A2 R.wait.length c2) (.slice A3 R.due.length c3) (.slice A4 R.snaps.length c4)) (by kernel_rfl) ?_ ?_ ?_
  · refine ⟨fun _ => false, fun k => ?_, fun _ => undef, rfl, by simp, ⟨X0.drew, ?_, ?_, ?_, ?_, ?_, ?_, ?_, ?_, ?_, ?_, ?_, ?_, ?_, ?_, ?_, ?_, ?_, BX.drew, ?_, ?_, ?_, ?_, ?_, ?_, ?_, ?_, BP⟩⟩
    · rw [Array.getD_eq_getD_getElem?, Array.getElem?_replicate]; split <;> rfl
    all_goals (intro h; cases h)
  · rintro listed a w2 i ⟨L, hL, s, rfl, hsz, I⟩ hi
    obtain ⟨hlt, hnot, hdep⟩ := (ready_iff _ _).1 hi
    have hi20 : i < 20 := hlt
    have cases20 : i = 0 ∨ i = 1 ∨ i = 2 ∨ i = 3 ∨ i = 4 ∨ i = 5 ∨ i = 6 ∨ i = 7 ∨ i = 8 ∨ i = 9 ∨ i = 10 ∨ i = 11 ∨ i = 12 ∨ i = 13 ∨ i = 14 ∨ i = 15 ∨ i = 16 ∨ i = 17 ∨ i = 18 ∨ i = 19 := by omega
    have hn0 : L i = false := by rw [← hL i]; exact not_bit hnot
    clear hi hlt hi20 hnot
    unfold frameR
    rcases cases20 with rfl | rfl | rfl | rfl | rfl | rfl | rfl | rfl | rfl | rfl | rfl | rfl | rfl | rfl | rfl | rfl | rfl | rfl | rfl | rfl
    · -- operation 0
      simp only [Region.binds, listed_bit hL] at hdep
      refine wpOp_step rfl (fun K' hK => ?_)
      go_simp
      exact hK _ _ ⟨_, bit_set hL hsz 0 (by omega), fun j => if j = 3 then .pointer (some ⟨rb, 2, none⟩) else s j, rfl, by simpa using hsz, ⟨I.x, fun _ => rfl, I.p3, I.p6, I.p9, I.l1, I.l4, I.l7, I.l10, I.o2, I.o5, I.o8, I.o11, I.q12, I.q14, I.q16, I.q18, I.ap, I.bx, I.k13, I.k15, I.k17, I.k19, I.m13, I.m15, I.m17, I.m19, I.bp⟩⟩
    · -- operation 1
      simp only [Region.binds, listed_bit hL] at hdep
      have d0 : L 0 = true := by simpa [hL] using hdep
      have n1 : L 13 = false := by cases hh : L 13 with | false => rfl | true => rw [I.k13 hh] at hn0; cases hn0
      have hc : w2.cell? ⟨rb, 2, none⟩ = some (.slice A1 R.ready.length c1) := by have := I.bx.cell 2; simp [cellsR, n1] at this; exact this
      have es := I.p0 d0
      refine wpOp_step rfl (fun K' hK => ?_)
      rw [es]
      go_simp
      exact hK _ _ ⟨_, bit_set hL hsz 1 (by omega), fun j => if j = 4 then .slice A1 R.ready.length c1 else s j, by simp [frameR, es], by simpa using hsz, ⟨I.x, I.p0, I.p3, I.p6, I.p9, fun _ => rfl, I.l4, I.l7, I.l10, I.o2, I.o5, I.o8, I.o11, I.q12, I.q14, I.q16, I.q18, I.ap, I.bx, fun _ => rfl, I.k15, I.k17, I.k19, I.m13, I.m15, I.m17, I.m19, I.bp⟩⟩
    · -- operation 2
      simp only [Region.binds, listed_bit hL] at hdep
      have d0 : L 1 = true := by simp at hdep; simp [hdep]
      have es := I.l1 d0
      refine wpOp_step rfl (fun K' hK => ?_)
      rw [es]
      go_simp
      refine (cloneI (h1.ext I.x) (by omega) (fun i j => rfl)).mono ?_
      rintro e w3 ⟨v, rfl, ow, x3⟩
      have hsz3 := I.x.below.size
      have n1 : L 13 = false := by cases hh : L 13 with | false => rfl | true => exact absurd (I.m13 hh) (by rw [hn0]; decide)
      exact hK _ _ ⟨_, bit_set hL hsz 2 (by omega), fun j => if j = 5 then v else s j, by simp [frameR, es], by simpa using hsz, ⟨I.x.trans x3, I.p0, I.p3, I.p6, I.p9, I.l1, I.l4, I.l7, I.l10, (fun _ => ow.base hsz3), (fun h => (I.o5 h).ext x3), (fun h => (I.o8 h).ext x3), (fun h => (I.o11 h).ext x3), I.q12, I.q14, I.q16, I.q18, (fun _ h8 => ow.apart (I.o8 h8)), (by have := I.bx.ext x3; simpa [n1] using this), I.k13, I.k15, I.k17, I.k19, fun _ => rfl, I.m15, I.m17, I.m19, I.bp.ext x3⟩⟩
    · -- operation 3
      simp only [Region.binds, listed_bit hL] at hdep
      refine wpOp_step rfl (fun K' hK => ?_)
      go_simp
      exact hK _ _ ⟨_, bit_set hL hsz 3 (by omega), fun j => if j = 6 then .pointer (some ⟨rb, 3, none⟩) else s j, rfl, by simpa using hsz, ⟨I.x, I.p0, fun _ => rfl, I.p6, I.p9, I.l1, I.l4, I.l7, I.l10, I.o2, I.o5, I.o8, I.o11, I.q12, I.q14, I.q16, I.q18, I.ap, I.bx, I.k13, I.k15, I.k17, I.k19, I.m13, I.m15, I.m17, I.m19, I.bp⟩⟩
    · -- operation 4
      simp only [Region.binds, listed_bit hL] at hdep
      have d0 : L 3 = true := by simpa [hL] using hdep
      have n1 : L 15 = false := by cases hh : L 15 with | false => rfl | true => rw [I.k15 hh] at hn0; cases hn0
      have hc : w2.cell? ⟨rb, 3, none⟩ = some (.slice A2 R.wait.length c2) := by have := I.bx.cell 3; simp [cellsR, n1] at this; exact this
      have es := I.p3 d0
      refine wpOp_step rfl (fun K' hK => ?_)
      rw [es]
      go_simp
      exact hK _ _ ⟨_, bit_set hL hsz 4 (by omega), fun j => if j = 7 then .slice A2 R.wait.length c2 else s j, by simp [frameR, es], by simpa using hsz, ⟨I.x, I.p0, I.p3, I.p6, I.p9, I.l1, fun _ => rfl, I.l7, I.l10, I.o2, I.o5, I.o8, I.o11, I.q12, I.q14, I.q16, I.q18, I.ap, I.bx, I.k13, fun _ => rfl, I.k17, I.k19, I.m13, I.m15, I.m17, I.m19, I.bp⟩⟩
    · -- operation 5
      simp only [Region.binds, listed_bit hL] at hdep
      have d0 : L 4 = true := by simp at hdep; simp [hdep]
      have es := I.l4 d0
      refine wpOp_step rfl (fun K' hK => ?_)
      rw [es]
      go_simp
      refine (cloneW (h2.ext I.x) (by omega) (fun i j => by unfold cWs cW; split <;> rfl)).mono ?_
      rintro e w3 ⟨v, rfl, ow, x3⟩
      have hsz3 := I.x.below.size
      have n1 : L 15 = false := by cases hh : L 15 with | false => rfl | true => exact absurd (I.m15 hh) (by rw [hn0]; decide)
      exact hK _ _ ⟨_, bit_set hL hsz 5 (by omega), fun j => if j = 8 then v else s j, by simp [frameR, es], by simpa using hsz, ⟨I.x.trans x3, I.p0, I.p3, I.p6, I.p9, I.l1, I.l4, I.l7, I.l10, (fun h => (I.o2 h).ext x3), (fun _ => ow.base hsz3), (fun h => (I.o8 h).ext x3), (fun h => (I.o11 h).ext x3), I.q12, I.q14, I.q16, I.q18, I.ap, (by have := I.bx.ext x3; simpa [n1] using this), I.k13, I.k15, I.k17, I.k19, I.m13, fun _ => rfl, I.m17, I.m19, I.bp.ext x3⟩⟩
    · -- operation 6
      simp only [Region.binds, listed_bit hL] at hdep
      refine wpOp_step rfl (fun K' hK => ?_)
      go_simp
      exact hK _ _ ⟨_, bit_set hL hsz 6 (by omega), fun j => if j = 9 then .pointer (some ⟨rb, 4, none⟩) else s j, rfl, by simpa using hsz, ⟨I.x, I.p0, I.p3, fun _ => rfl, I.p9, I.l1, I.l4, I.l7, I.l10, I.o2, I.o5, I.o8, I.o11, I.q12, I.q14, I.q16, I.q18, I.ap, I.bx, I.k13, I.k15, I.k17, I.k19, I.m13, I.m15, I.m17, I.m19, I.bp⟩⟩
    · -- operation 7
      simp only [Region.binds, listed_bit hL] at hdep
      have d0 : L 6 = true := by simpa [hL] using hdep
      have n1 : L 17 = false := by cases hh : L 17 with | false => rfl | true => rw [I.k17 hh] at hn0; cases hn0
      have hc : w2.cell? ⟨rb, 4, none⟩ = some (.slice A3 R.due.length c3) := by have := I.bx.cell 4; simp [cellsR, n1] at this; exact this
      have es := I.p6 d0
      refine wpOp_step rfl (fun K' hK => ?_)
      rw [es]
      go_simp
      exact hK _ _ ⟨_, bit_set hL hsz 7 (by omega), fun j => if j = 10 then .slice A3 R.due.length c3 else s j, by simp [frameR, es], by simpa using hsz, ⟨I.x, I.p0, I.p3, I.p6, I.p9, I.l1, I.l4, fun _ => rfl, I.l10, I.o2, I.o5, I.o8, I.o11, I.q12, I.q14, I.q16, I.q18, I.ap, I.bx, I.k13, I.k15, fun _ => rfl, I.k19, I.m13, I.m15, I.m17, I.m19, I.bp⟩⟩
    · -- operation 8
      simp only [Region.binds, listed_bit hL] at hdep
      have d0 : L 7 = true := by simp at hdep; simp [hdep]
      have es := I.l7 d0
      refine wpOp_step rfl (fun K' hK => ?_)
      rw [es]
      go_simp
      refine (cloneI (h3.ext I.x) (by omega) (fun i j => rfl)).mono ?_
      rintro e w3 ⟨v, rfl, ow, x3⟩
      have hsz3 := I.x.below.size
      have n1 : L 17 = false := by cases hh : L 17 with | false => rfl | true => exact absurd (I.m17 hh) (by rw [hn0]; decide)
      exact hK _ _ ⟨_, bit_set hL hsz 8 (by omega), fun j => if j = 11 then v else s j, by simp [frameR, es], by simpa using hsz, ⟨I.x.trans x3, I.p0, I.p3, I.p6, I.p9, I.l1, I.l4, I.l7, I.l10, (fun h => (I.o2 h).ext x3), (fun h => (I.o5 h).ext x3), (fun _ => ow.base hsz3), (fun h => (I.o11 h).ext x3), I.q12, I.q14, I.q16, I.q18, (fun h2 _ => (ow.apart (I.o2 h2)).symm), (by have := I.bx.ext x3; simpa [n1] using this), I.k13, I.k15, I.k17, I.k19, I.m13, I.m15, fun _ => rfl, I.m19, I.bp.ext x3⟩⟩
    · -- operation 9
      simp only [Region.binds, listed_bit hL] at hdep
      refine wpOp_step rfl (fun K' hK => ?_)
      go_simp
      exact hK _ _ ⟨_, bit_set hL hsz 9 (by omega), fun j => if j = 12 then .pointer (some ⟨rb, 9, none⟩) else s j, rfl, by simpa using hsz, ⟨I.x, I.p0, I.p3, I.p6, fun _ => rfl, I.l1, I.l4, I.l7, I.l10, I.o2, I.o5, I.o8, I.o11, I.q12, I.q14, I.q16, I.q18, I.ap, I.bx, I.k13, I.k15, I.k17, I.k19, I.m13, I.m15, I.m17, I.m19, I.bp⟩⟩
    · -- operation 10
      simp only [Region.binds, listed_bit hL] at hdep
      have d0 : L 9 = true := by simpa [hL] using hdep
      have n1 : L 19 = false := by cases hh : L 19 with | false => rfl | true => rw [I.k19 hh] at hn0; cases hn0
      have hc : w2.cell? ⟨rb, 9, none⟩ = some (.slice A4 R.snaps.length c4) := by have := I.bx.cell 9; simp [cellsR, n1] at this; exact this
      have es := I.p9 d0
      refine wpOp_step rfl (fun K' hK => ?_)
      rw [es]
      go_simp
      exact hK _ _ ⟨_, bit_set hL hsz 10 (by omega), fun j => if j = 13 then .slice A4 R.snaps.length c4 else s j, by simp [frameR, es], by simpa using hsz, ⟨I.x, I.p0, I.p3, I.p6, I.p9, I.l1, I.l4, I.l7, fun _ => rfl, I.o2, I.o5, I.o8, I.o11, I.q12, I.q14, I.q16, I.q18, I.ap, I.bx, I.k13, I.k15, I.k17, fun _ => rfl, I.m13, I.m15, I.m17, I.m19, I.bp⟩⟩
    · -- operation 11
      simp only [Region.binds, listed_bit hL] at hdep
      have d0 : L 10 = true := by simp at hdep; simp [hdep]
      have es := I.l10 d0
      refine wpOp_step rfl (fun K' hK => ?_)
      rw [es]
      go_simp
      refine (cloneS (h4.ext I.x) (by omega) (fun i j => rfl)).mono ?_
      rintro e w3 ⟨v, rfl, ow, x3⟩
      have hsz3 := I.x.below.size
      have n1 : L 19 = false := by cases hh : L 19 with | false => rfl | true => exact absurd (I.m19 hh) (by rw [hn0]; decide)
      exact hK _ _ ⟨_, bit_set hL hsz 11 (by omega), fun j => if j = 14 then v else s j, by simp [frameR, es], by simpa using hsz, ⟨I.x.trans x3, I.p0, I.p3, I.p6, I.p9, I.l1, I.l4, I.l7, I.l10, (fun h => (I.o2 h).ext x3), (fun h => (I.o5 h).ext x3), (fun h => (I.o8 h).ext x3), (fun _ => ow.base hsz3), I.q12, I.q14, I.q16, I.q18, I.ap, (by have := I.bx.ext x3; simpa [n1] using this), I.k13, I.k15, I.k17, I.k19, I.m13, I.m15, I.m17, fun _ => rfl, I.bp.ext x3⟩⟩
    · -- operation 12
      simp only [Region.binds, listed_bit hL] at hdep
      refine wpOp_step rfl (fun K' hK => ?_)
      go_simp
      exact hK _ _ ⟨_, bit_set hL hsz 12 (by omega), fun j => if j = 15 then .pointer (some ⟨rb, 2, none⟩) else s j, rfl, by simpa using hsz, ⟨I.x, I.p0, I.p3, I.p6, I.p9, I.l1, I.l4, I.l7, I.l10, I.o2, I.o5, I.o8, I.o11, fun _ => rfl, I.q14, I.q16, I.q18, I.ap, I.bx, I.k13, I.k15, I.k17, I.k19, I.m13, I.m15, I.m17, I.m19, I.bp⟩⟩
    · -- operation 13
      simp only [Region.binds, listed_bit hL] at hdep
      simp at hdep
      have dq : L 12 = true := by simp [hdep]
      have dc : L 2 = true := by simp [hdep]
      have dl : L 1 = true := by simp [hdep]
      have es := I.q12 dq
      obtain ⟨A, c, ev⟩ := (I.o2 dc).form
      have hc : w2.cell? ⟨rb, 2, none⟩ = some (if L 13 then s 5 else .slice A1 R.ready.length c1) := by have := I.bx.cell 2; simp only [cellsR] at this; exact this
      have hf := I.bx.frozen 2
      refine wpOp_step rfl (fun K' hK => ?_)
      rw [es, ev]
      go_simp
      exact hK _ _ ⟨_, bit_set hL hsz 13 (by omega), s, by simp [frameR, es, ev], by simpa using hsz, ⟨I.x.setNew (p := ⟨rb, _, none⟩) rb0 _, I.p0, I.p3, I.p6, I.p9, I.l1, I.l4, I.l7, I.l10, (fun h => (I.o2 h).set I.bx (by decide)), (fun h => (I.o5 h).set I.bx (by decide)), (fun h => (I.o8 h).set I.bx (by decide)), (fun h => (I.o11 h).set I.bx (by decide)), I.q12, I.q14, I.q16, I.q18, I.ap, (by have := I.bx.set 2 (s 5); rw [ev] at this; simpa [cellsR, ev] using this), (fun _ => dl), I.k15, I.k17, I.k19, (fun _ => dc), I.m15, I.m17, I.m19, I.bp.far (p := ⟨rb, _, none⟩) hne _⟩⟩
    · -- operation 14
      simp only [Region.binds, listed_bit hL] at hdep
      refine wpOp_step rfl (fun K' hK => ?_)
      go_simp
      exact hK _ _ ⟨_, bit_set hL hsz 14 (by omega), fun j => if j = 16 then .pointer (some ⟨rb, 3, none⟩) else s j, rfl, by simpa using hsz, ⟨I.x, I.p0, I.p3, I.p6, I.p9, I.l1, I.l4, I.l7, I.l10, I.o2, I.o5, I.o8, I.o11, I.q12, fun _ => rfl, I.q16, I.q18, I.ap, I.bx, I.k13, I.k15, I.k17, I.k19, I.m13, I.m15, I.m17, I.m19, I.bp⟩⟩
    · -- operation 15
      simp only [Region.binds, listed_bit hL] at hdep
      simp at hdep
      have dq : L 14 = true := by simp [hdep]
      have dc : L 5 = true := by simp [hdep]
      have dl : L 4 = true := by simp [hdep]
      have es := I.q14 dq
      obtain ⟨A, c, ev⟩ := (I.o5 dc).form
      have hc : w2.cell? ⟨rb, 3, none⟩ = some (if L 15 then s 8 else .slice A2 R.wait.length c2) := by have := I.bx.cell 3; simp only [cellsR] at this; exact this
      have hf := I.bx.frozen 3
      refine wpOp_step rfl (fun K' hK => ?_)
      rw [es, ev]
      go_simp
      exact hK _ _ ⟨_, bit_set hL hsz 15 (by omega), s, by simp [frameR, es, ev], by simpa using hsz, ⟨I.x.setNew (p := ⟨rb, _, none⟩) rb0 _, I.p0, I.p3, I.p6, I.p9, I.l1, I.l4, I.l7, I.l10, (fun h => (I.o2 h).set I.bx (by decide)), (fun h => (I.o5 h).set I.bx (by decide)), (fun h => (I.o8 h).set I.bx (by decide)), (fun h => (I.o11 h).set I.bx (by decide)), I.q12, I.q14, I.q16, I.q18, I.ap, (by have := I.bx.set 3 (s 8); rw [ev] at this; simpa [cellsR, ev] using this), I.k13, (fun _ => dl), I.k17, I.k19, I.m13, (fun _ => dc), I.m17, I.m19, I.bp.far (p := ⟨rb, _, none⟩) hne _⟩⟩
    · -- operation 16
      simp only [Region.binds, listed_bit hL] at hdep
      refine wpOp_step rfl (fun K' hK => ?_)
      go_simp
      exact hK _ _ ⟨_, bit_set hL hsz 16 (by omega), fun j => if j = 17 then .pointer (some ⟨rb, 4, none⟩) else s j, rfl, by simpa using hsz, ⟨I.x, I.p0, I.p3, I.p6, I.p9, I.l1, I.l4, I.l7, I.l10, I.o2, I.o5, I.o8, I.o11, I.q12, I.q14, fun _ => rfl, I.q18, I.ap, I.bx, I.k13, I.k15, I.k17, I.k19, I.m13, I.m15, I.m17, I.m19, I.bp⟩⟩
    · -- operation 17
      simp only [Region.binds, listed_bit hL] at hdep
      simp at hdep
      have dq : L 16 = true := by simp [hdep]
      have dc : L 8 = true := by simp [hdep]
      have dl : L 7 = true := by simp [hdep]
      have es := I.q16 dq
      obtain ⟨A, c, ev⟩ := (I.o8 dc).form
      have hc : w2.cell? ⟨rb, 4, none⟩ = some (if L 17 then s 11 else .slice A3 R.due.length c3) := by have := I.bx.cell 4; simp only [cellsR] at this; exact this
      have hf := I.bx.frozen 4
      refine wpOp_step rfl (fun K' hK => ?_)
      rw [es, ev]
      go_simp
      exact hK _ _ ⟨_, bit_set hL hsz 17 (by omega), s, by simp [frameR, es, ev], by simpa using hsz, ⟨I.x.setNew (p := ⟨rb, _, none⟩) rb0 _, I.p0, I.p3, I.p6, I.p9, I.l1, I.l4, I.l7, I.l10, (fun h => (I.o2 h).set I.bx (by decide)), (fun h => (I.o5 h).set I.bx (by decide)), (fun h => (I.o8 h).set I.bx (by decide)), (fun h => (I.o11 h).set I.bx (by decide)), I.q12, I.q14, I.q16, I.q18, I.ap, (by have := I.bx.set 4 (s 11); rw [ev] at this; simpa [cellsR, ev] using this), I.k13, I.k15, (fun _ => dl), I.k19, I.m13, I.m15, (fun _ => dc), I.m19, I.bp.far (p := ⟨rb, _, none⟩) hne _⟩⟩
    · -- operation 18
      simp only [Region.binds, listed_bit hL] at hdep
      refine wpOp_step rfl (fun K' hK => ?_)
      go_simp
      exact hK _ _ ⟨_, bit_set hL hsz 18 (by omega), fun j => if j = 18 then .pointer (some ⟨rb, 9, none⟩) else s j, rfl, by simpa using hsz, ⟨I.x, I.p0, I.p3, I.p6, I.p9, I.l1, I.l4, I.l7, I.l10, I.o2, I.o5, I.o8, I.o11, I.q12, I.q14, I.q16, fun _ => rfl, I.ap, I.bx, I.k13, I.k15, I.k17, I.k19, I.m13, I.m15, I.m17, I.m19, I.bp⟩⟩
    · -- operation 19
      simp only [Region.binds, listed_bit hL] at hdep
      simp at hdep
      have dq : L 18 = true := by simp [hdep]
      have dc : L 11 = true := by simp [hdep]
      have dl : L 10 = true := by simp [hdep]
      have es := I.q18 dq
      obtain ⟨A, c, ev⟩ := (I.o11 dc).form
      have hc : w2.cell? ⟨rb, 9, none⟩ = some (if L 19 then s 14 else .slice A4 R.snaps.length c4) := by have := I.bx.cell 9; simp only [cellsR] at this; exact this
      have hf := I.bx.frozen 9
      refine wpOp_step rfl (fun K' hK => ?_)
      rw [es, ev]
      go_simp
      exact hK _ _ ⟨_, bit_set hL hsz 19 (by omega), s, by simp [frameR, es, ev], by simpa using hsz, ⟨I.x.setNew (p := ⟨rb, _, none⟩) rb0 _, I.p0, I.p3, I.p6, I.p9, I.l1, I.l4, I.l7, I.l10, (fun h => (I.o2 h).set I.bx (by decide)), (fun h => (I.o5 h).set I.bx (by decide)), (fun h => (I.o8 h).set I.bx (by decide)), (fun h => (I.o11 h).set I.bx (by decide)), I.q12, I.q14, I.q16, I.q18, I.ap, (by have := I.bx.set 9 (s 14); rw [ev] at this; simpa [cellsR, ev] using this), I.k13, I.k15, I.k17, (fun _ => dl), I.m13, I.m15, I.m17, (fun _ => dc), I.bp.far (p := ⟨rb, _, none⟩) hne _⟩⟩
  · rintro listed a w2 ⟨L, hL, s, rfl, hsz, I⟩ hr
    have ALL : ∀ i, i < 20 → L i = true := fun i hi => by rw [← hL i]; exact all_listed (by kernel_rfl) hsz hr i hi
    have N1 := I.o2 (ALL 2 (by omega))
    have N2 := I.o5 (ALL 5 (by omega))
    have N3 := I.o8 (ALL 8 (by omega))
    have N4 := I.o11 (ALL 11 (by omega))
    have AP := Lib.hid (I.ap (ALL 2 (by omega)) (ALL 8 (by omega)))
    have bx := I.bx
    simp only [ALL 13 (by omega), ALL 15 (by omega), ALL 17 (by omega), ALL 19 (by omega), if_true] at bx
    obtain ⟨a1, k1, e1⟩ := N1.form
    obtain ⟨a2, k2, e2⟩ := N2.form
    obtain ⟨a3, k3, e3⟩ := N3.form
    obtain ⟨a4, k4, e4⟩ := N4.form
    rw [e1] at N1 AP bx
    rw [e2] at N2 bx
    rw [e3] at N3 AP bx
    rw [e4] at N4 bx
    have NN := Lib.hid (RegsNew.mk AP.out N1 N2 N3 N4)
    have XX := Lib.hid I.x
    have BP := Lib.hid I.bp
    obtain ⟨r1, r2, r3⟩ := bx.rules
    obtain ⟨p1, p2, p3⟩ := I.bp.rules
    unfold cellsR at r1
    clear N1 N2 N3 N4 AP bx e1 e2 e3 e4 I hL ALL hr hsz
    unfold frameR
    go_wp2_with fail
    refine bodyPost_ret (v := .agg (cellsR R (.slice a1 R.ready.length k1) (.slice a2 R.wait.length k2) (.slice a3 R.due.length k3) (.slice a4 R.snaps.length k4))) (by simp [results, Tryz.results26, go_sem, p1, cellsR]) rfl ?_
    exact ⟨⟨_, _, _, _, rfl, NN.out.keep (((((((((((Keep.refl (· = pb) w2).setCell (p := ⟨pb, 0, none⟩) rfl _).setCell (p := ⟨pb, 1, none⟩) rfl _).setCell (p := ⟨pb, 2, none⟩) rfl _).setCell (p := ⟨pb, 3, none⟩) rfl _).setCell (p := ⟨pb, 4, none⟩) rfl _).setCell (p := ⟨pb, 5, none⟩) rfl _).setCell (p := ⟨pb, 6, none⟩) rfl _).setCell (p := ⟨pb, 7, none⟩) rfl _).setCell (p := ⟨pb, 8, none⟩) rfl _).setCell (p := ⟨pb, 9, none⟩) rfl _) BP.out⟩, ((((((((((XX.out.setNew (p := ⟨pb, 0, none⟩) hpb0 _).setNew (p := ⟨pb, 1, none⟩) hpb0 _).setNew (p := ⟨pb, 2, none⟩) hpb0 _).setNew (p := ⟨pb, 3, none⟩) hpb0 _).setNew (p := ⟨pb, 4, none⟩) hpb0 _).setNew (p := ⟨pb, 5, none⟩) hpb0 _).setNew (p := ⟨pb, 6, none⟩) hpb0 _).setNew (p := ⟨pb, 7, none⟩) hpb0 _).setNew (p := ⟨pb, 8, none⟩) hpb0 _).setNew (p := ⟨pb, 9, none⟩) hpb0 _)⟩
end
end Go.Proofs.YtjpalcejmloocaaGreat.World
