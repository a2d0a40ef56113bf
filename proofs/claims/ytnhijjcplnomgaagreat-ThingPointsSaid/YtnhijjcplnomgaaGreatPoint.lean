/-
  thing.point: a value's parts, if it is a point.
-/
import Derived.Test.YtnhijjcplnomgaaGreatPrim
namespace Go.Proofs.YtnhijjcplnomgaaGreat.World
open Go.RowKit Go.Proofs.YtnhijjcplnomgaaGreat.Plain
set_option linter.unusedVariables false
attribute [local go_sem ↓] Go.wp_at_zero Go.wp_at_succ
structure PTI (w : World) (m g : Nat) (i px py : Int) (L : Nat → Bool) (s : Nat → Value) (W : World) : Prop where
  v0 : L 0 = true → s 47 = .pointer (some ⟨m, 0, none⟩)
  v1 : L 1 = true → s 48 = .pointer (some ⟨g, 1, none⟩)
  v2 : L 2 = true → s 49 = .int .i64 i
  v3 : L 3 = true → s 50 = .agg #[.bool false, .int .i64 px]
  v4 : L 4 = true → s 51 = .pointer (some ⟨m, 0, none⟩)
  v5 : L 5 = true → s 52 = .pointer (some ⟨g, 1, none⟩)
  v6 : L 6 = true → s 53 = .int .i64 i
  v7 : L 7 = true → s 54 = .agg #[.bool false, .int .i64 py]
  x : Ext w W
  b3 : Blk W g 40 #[.bool true, .int .i64 i]
  k10 : L 10 = true → L 8 = true
  k11 : L 11 = true → L 9 = true
  za : L 8 = true → L 10 = false → ∃ a, s 7 = .pointer (some ⟨a, 0, none⟩) ∧ w.heap.size ≤ a ∧ Blk W a 40 #[.bool false, .int .i64 0] ∧ a ≠ g
  zb : L 10 = true → ∃ a, s 7 = .pointer (some ⟨a, 0, none⟩) ∧ w.heap.size ≤ a ∧ Blk W a 40 #[.bool false, .int .i64 px] ∧ a ≠ g
  ya : L 9 = true → L 11 = false → ∃ a, s 8 = .pointer (some ⟨a, 0, none⟩) ∧ w.heap.size ≤ a ∧ Blk W a 40 #[.bool false, .int .i64 0] ∧ a ≠ g
  yb : L 11 = true → ∃ a, s 8 = .pointer (some ⟨a, 0, none⟩) ∧ w.heap.size ≤ a ∧ Blk W a 40 #[.bool false, .int .i64 py] ∧ a ≠ g
  ne : L 8 = true → L 9 = true → ∀ a b, s 7 = .pointer (some ⟨a, 0, none⟩) → s 8 = .pointer (some ⟨b, 0, none⟩) → a ≠ b
def frPT (m g : Nat) (u s : Nat → Value) : Act := { tmps := #[.pointer (some ⟨m, 0, none⟩), u 1, u 2, .pointer (some ⟨g, 0, none⟩), u 4, u 5, u 6, s 7, s 8, u 9, u 10, u 11, u 12, u 13, u 14, u 15, u 16, u 17, u 18, u 19, u 20, u 21, u 22, u 23, u 24, u 25, u 26, u 27, u 28, u 29, u 30, u 31, u 32, u 33, u 34, u 35, u 36, u 37, u 38, u 39, u 40, u 41, u 42, u 43, u 44, u 45, u 46, s 47, s 48, s 49, s 50, s 51, s 52, s 53, s 54, u 55, u 56, u 57, u 58, u 59, u 60, u 61, u 62, u 63, u 64, u 65, u 66], defers := [] }
def PTInv (w : World) (m g : Nat) (i px py : Int) (u : Nat → Value) (listed : Array Bool) (act : Act) (W : World) : Prop :=
  ∃ L : Nat → Bool, (∀ k, listed.getD k false = L k) ∧ ∃ s : Nat → Value, act = frPT m g u s ∧ listed.size = 12 ∧ PTI w m g i px py L s W
section
variable {w w' w2 : World} {F F' F2 : Nat → Prop} {m : Nat} {S S' : MS} {X : MX}
set_option maxRecDepth 100000 in
set_option maxHeartbeats 4000000 in
theorem ppoint (h : M w F m S) (i px py : Int) (hc : S.cls i = 18) (hf : S.fmt i = 1) (hz : S.size i = 2) (h0 : S.get i 0 = num px) (h1 : S.get i 1 = num py) : Calls Tryz.prog 99 #[.pointer (some ⟨m, 0, none⟩), .agg #[.bool true, .int .i64 i]] w fun e w' => e = .returned (.tuple #[.int .i64 px, .int .i64 py, .bool true]) ∧ Ext w w' := by
  obtain ⟨bt, R⟩ := h.rd
  have C0 := Lib.hid (fun W [x : IsExt w W] => h0 ▸ mget (h.ext x.out) i 0)
  have C1 := Lib.hid (fun W [x : IsExt w W] => h1 ▸ mget (h.ext x.out) i 1)
  unfold val num at C0 C1
  have CF := Lib.hid (fun W [IsExt w W] => hf ▸ R.fmt W i)
  have CZ := Lib.hid (fun W [IsExt w W] => hz ▸ R.size W i)
  have k0 := R.c0
  have l0 := R.lt
  have CS := Lib.hid (fun W k => tspecial (w := W) k (.pointer (some ⟨bt, 0, none⟩)))
  have CC : Hid (∀ W [x : IsExt w W], Calls Tryz.prog 176 #[.pointer (some ⟨bt, 0, none⟩), .int .i64 i] W fun e w' => e = .returned (.int .i64 18) ∧ Ext W w') := Lib.hid (fun W ix => by
    obtain ⟨X, hX⟩ := h
    obtain ⟨z1, _, _⟩ := hX.bm.rules
    have e0 : w.cell? ⟨m, 0, none⟩ = some (.iface 88 (.pointer (some ⟨X.bt, 0, none⟩))) := z1 0
    rw [k0] at e0
    injection e0 with e0; injection e0 with _ e0; injection e0 with e0; injection e0 with e0; injection e0 with e0
    have q := tclass (hX.ext ix.out).ts hX.wf i
    rw [hc] at q
    subst e0; exact q)
  clear h R hc hf hz h0 h1
  go_enter Tryz.func99, Tryz.ntmps99
  go_upto_region 1 with (fail)
  refine wp_name (fun w1 hW => ?_)
  have i1 : IsExt w w1 := ⟨by rw [hW]; exact (Ext.refl w).alloc _⟩
  have B3 : Hid (Blk w1 w.heap.size 40 #[.bool true, .int .i64 i]) := Lib.hid (by rw [hW]; exact Blk.new _ _ _)
  have c1 := (i1.out.below.cell (p := ⟨m, 0, none⟩) l0).trans k0
  have l1 := Nat.lt_of_lt_of_le l0 i1.out.below.size
  have hg0 : w.heap.size ≤ w.heap.size := Nat.le_refl _
  obtain ⟨p1, p2, p3⟩ := B3.out.rules
  clear hW k0
  generalize hg : w.heap.size = g at *
  refine wp_region_ext (by kernel_rfl) (by kernel_rfl) ?_
  repeat (go_big_quiet_step ((first | (go_at_call 176; exact calls_ext (CC.out _)) | (go_at_call 192; exact calls_ext (CS.out _ _)) | (go_at_call 180; exact calls_ext (CF.out _)) | (go_at_call 191; exact calls_ext (CZ.out _)))))
  refine wpQuiet_nil ?_
  rintro W ⟨x', rfl⟩
  have i2 : IsExt w (Plain.ext w1 x') := ⟨i1.out.trans ⟨_, rfl⟩⟩
  replace B3 := Lib.hid (B3.out.ext ⟨x', rfl⟩)
  clear p1 p2 p3 c1 l1 CC CS CF CZ i1 l0
  generalize Plain.ext w1 x' = w2 at *
  go_upto_region 3 with (fail)
  refine wp_any_act (fun A hA => ?_)
  have eA : A = frPT m g (fun q => A.tmps.getD q undef) (fun q => A.tmps.getD q undef) := by rw [hA]; rfl
  clear hA
  generalize (fun q => A.tmps.getD q undef) = u at eA
  subst eA
  refine wp_region_inv (Inv := PTInv w m g i px py u) (by kernel_rfl) ?_ ?_ ?_
  · refine ⟨fun _ => false, fun k => ?_, u, rfl, by simp, ⟨?_, ?_, ?_, ?_, ?_, ?_, ?_, ?_, ?_, ?_, ?_, ?_, ?_, ?_, ?_, ?_, ?_⟩⟩
    · rw [Array.getD_eq_getD_getElem?, Array.getElem?_replicate]; split <;> rfl
    · intro h; exact absurd h (by decide)
    · intro h; exact absurd h (by decide)
    · intro h; exact absurd h (by decide)
    · intro h; exact absurd h (by decide)
    · intro h; exact absurd h (by decide)
    · intro h; exact absurd h (by decide)
    · intro h; exact absurd h (by decide)
    · intro h; exact absurd h (by decide)
    · exact i2.out.trans ((Ext.refl _).drew)
    · exact B3.out.drew
    · intro h; exact absurd h (by decide)
    · intro h; exact absurd h (by decide)
    · intro h; exact absurd h (by decide)
    · intro h; exact absurd h (by decide)
    · intro h; exact absurd h (by decide)
    · intro h; exact absurd h (by decide)
    · intro h; exact absurd h (by decide)
  · rintro listed act W ii ⟨L, hL, s, rfl, hsz, I⟩ hi
    obtain ⟨hlt, hnot, hdep⟩ := (ready_iff _ _).1 hi
    have hiN : ii < 12 := hlt
    have casesN : ii = 0 ∨ ii = 1 ∨ ii = 2 ∨ ii = 3 ∨ ii = 4 ∨ ii = 5 ∨ ii = 6 ∨ ii = 7 ∨ ii = 8 ∨ ii = 9 ∨ ii = 10 ∨ ii = 11 := by omega
    have hn0 : L ii = false := by rw [← hL ii]; exact not_bit hnot
    clear hi hlt hiN hnot
    have iW : IsExt w W := ⟨I.x⟩
    obtain ⟨p1, p2, p3⟩ := I.b3.rules
    have hfz := I.x.below.size
    unfold frPT
    rcases casesN with rfl | rfl | rfl | rfl | rfl | rfl | rfl | rfl | rfl | rfl | rfl | rfl
    · -- operation 0
      simp only [Region.binds, listed_bit hL] at hdep
      refine wpOp_step rfl (fun K' hK => ?_)
      go_simp
      exact hK _ _ ⟨_, bit_set hL hsz 0 (by omega), fun jx => if jx = 47 then .pointer (some ⟨m, 0, none⟩) else s jx, by first | (simp [frPT]; done) | (simp [frPT]; rfl), by simpa using hsz, ⟨fun _ => rfl, I.v1, I.v2, I.v3, I.v4, I.v5, I.v6, I.v7, I.x, I.b3, I.k10, I.k11, I.za, I.zb, I.ya, I.yb, I.ne⟩⟩
    · -- operation 1
      simp only [Region.binds, listed_bit hL] at hdep
      refine wpOp_step rfl (fun K' hK => ?_)
      go_simp
      exact hK _ _ ⟨_, bit_set hL hsz 1 (by omega), fun jx => if jx = 48 then .pointer (some ⟨g, 1, none⟩) else s jx, by first | (simp [frPT]; done) | (simp [frPT]; rfl), by simpa using hsz, ⟨I.v0, fun _ => rfl, I.v2, I.v3, I.v4, I.v5, I.v6, I.v7, I.x, I.b3, I.k10, I.k11, I.za, I.zb, I.ya, I.yb, I.ne⟩⟩
    · -- operation 2
      simp only [Region.binds, listed_bit hL] at hdep
      have d1 : L 1 = true := by first | simpa [hL] using hdep | (simp [hL, Region.binds] at hdep; simp [hdep])
      have e1 := I.v1 d1
      refine wpOp_step rfl (fun K' hK => ?_)
      rw [e1]
      go_simp
      exact hK _ _ ⟨_, bit_set hL hsz 2 (by omega), fun jx => if jx = 49 then .int .i64 i else s jx, by first | (simp [frPT, e1]; done) | (simp [frPT, e1]; rfl), by simpa using hsz, ⟨I.v0, I.v1, fun _ => rfl, I.v3, I.v4, I.v5, I.v6, I.v7, I.x, I.b3, I.k10, I.k11, I.za, I.zb, I.ya, I.yb, I.ne⟩⟩
    · -- operation 3
      simp only [Region.binds, listed_bit hL] at hdep
      have d0 : L 0 = true := by first | simpa [hL] using hdep | (simp [hL, Region.binds] at hdep; simp [hdep])
      have e0 := I.v0 d0
      have d2 : L 2 = true := by first | simpa [hL] using hdep | (simp [hL, Region.binds] at hdep; simp [hdep])
      have e2 := I.v2 d2
      refine wpOp_step rfl (fun K' hK => ?_)
      rw [e0, e2]
      go_simp
      refine (C0.out _).mono ?_
      rintro e w3 ⟨rfl, x3⟩
      exact hK _ _ ⟨_, bit_set hL hsz 3 (by omega), fun jx => if jx = 50 then .agg #[.bool false, .int .i64 px] else s jx, by first | (simp [frPT, e0, e2]; done) | (simp [frPT, e0, e2]; rfl), by simpa using hsz, ⟨I.v0, I.v1, I.v2, fun _ => rfl, I.v4, I.v5, I.v6, I.v7, I.x.trans x3, I.b3.ext x3, I.k10, I.k11, fun h1 h2 => by obtain ⟨a, y1, y2, y3, y4⟩ := I.za h1 h2; exact ⟨a, y1, y2, y3.ext x3, y4⟩, fun h1 => by obtain ⟨a, y1, y2, y3, y4⟩ := I.zb h1; exact ⟨a, y1, y2, y3.ext x3, y4⟩, fun h1 h2 => by obtain ⟨a, y1, y2, y3, y4⟩ := I.ya h1 h2; exact ⟨a, y1, y2, y3.ext x3, y4⟩, fun h1 => by obtain ⟨a, y1, y2, y3, y4⟩ := I.yb h1; exact ⟨a, y1, y2, y3.ext x3, y4⟩, I.ne⟩⟩
    · -- operation 4
      simp only [Region.binds, listed_bit hL] at hdep
      refine wpOp_step rfl (fun K' hK => ?_)
      go_simp
      exact hK _ _ ⟨_, bit_set hL hsz 4 (by omega), fun jx => if jx = 51 then .pointer (some ⟨m, 0, none⟩) else s jx, by first | (simp [frPT]; done) | (simp [frPT]; rfl), by simpa using hsz, ⟨I.v0, I.v1, I.v2, I.v3, fun _ => rfl, I.v5, I.v6, I.v7, I.x, I.b3, I.k10, I.k11, I.za, I.zb, I.ya, I.yb, I.ne⟩⟩
    · -- operation 5
      simp only [Region.binds, listed_bit hL] at hdep
      refine wpOp_step rfl (fun K' hK => ?_)
      go_simp
      exact hK _ _ ⟨_, bit_set hL hsz 5 (by omega), fun jx => if jx = 52 then .pointer (some ⟨g, 1, none⟩) else s jx, by first | (simp [frPT]; done) | (simp [frPT]; rfl), by simpa using hsz, ⟨I.v0, I.v1, I.v2, I.v3, I.v4, fun _ => rfl, I.v6, I.v7, I.x, I.b3, I.k10, I.k11, I.za, I.zb, I.ya, I.yb, I.ne⟩⟩
    · -- operation 6
      simp only [Region.binds, listed_bit hL] at hdep
      have d5 : L 5 = true := by first | simpa [hL] using hdep | (simp [hL, Region.binds] at hdep; simp [hdep])
      have e5 := I.v5 d5
      refine wpOp_step rfl (fun K' hK => ?_)
      rw [e5]
      go_simp
      exact hK _ _ ⟨_, bit_set hL hsz 6 (by omega), fun jx => if jx = 53 then .int .i64 i else s jx, by first | (simp [frPT, e5]; done) | (simp [frPT, e5]; rfl), by simpa using hsz, ⟨I.v0, I.v1, I.v2, I.v3, I.v4, I.v5, fun _ => rfl, I.v7, I.x, I.b3, I.k10, I.k11, I.za, I.zb, I.ya, I.yb, I.ne⟩⟩
    · -- operation 7
      simp only [Region.binds, listed_bit hL] at hdep
      have d4 : L 4 = true := by first | simpa [hL] using hdep | (simp [hL, Region.binds] at hdep; simp [hdep])
      have e4 := I.v4 d4
      have d6 : L 6 = true := by first | simpa [hL] using hdep | (simp [hL, Region.binds] at hdep; simp [hdep])
      have e6 := I.v6 d6
      refine wpOp_step rfl (fun K' hK => ?_)
      rw [e4, e6]
      go_simp
      refine (C1.out _).mono ?_
      rintro e w3 ⟨rfl, x3⟩
      exact hK _ _ ⟨_, bit_set hL hsz 7 (by omega), fun jx => if jx = 54 then .agg #[.bool false, .int .i64 py] else s jx, by first | (simp [frPT, e4, e6]; done) | (simp [frPT, e4, e6]; rfl), by simpa using hsz, ⟨I.v0, I.v1, I.v2, I.v3, I.v4, I.v5, I.v6, fun _ => rfl, I.x.trans x3, I.b3.ext x3, I.k10, I.k11, fun h1 h2 => by obtain ⟨a, y1, y2, y3, y4⟩ := I.za h1 h2; exact ⟨a, y1, y2, y3.ext x3, y4⟩, fun h1 => by obtain ⟨a, y1, y2, y3, y4⟩ := I.zb h1; exact ⟨a, y1, y2, y3.ext x3, y4⟩, fun h1 h2 => by obtain ⟨a, y1, y2, y3, y4⟩ := I.ya h1 h2; exact ⟨a, y1, y2, y3.ext x3, y4⟩, fun h1 => by obtain ⟨a, y1, y2, y3, y4⟩ := I.yb h1; exact ⟨a, y1, y2, y3.ext x3, y4⟩, I.ne⟩⟩
    · -- operation 8
      simp only [Region.binds, listed_bit hL] at hdep
      have n10 : L 10 = false := by cases hh : L 10 with | false => rfl | true => rw [I.k10 hh] at hn0; cases hn0
      refine wpOp_step rfl (fun K' hK => ?_)
      go_simp
      exact hK _ _ ⟨_, bit_set hL hsz 8 (by omega), fun jx => if jx = 7 then .pointer (some ⟨W.heap.size, 0, none⟩) else s jx, by first | (simp [frPT]; done) | (simp [frPT]; rfl), by simpa using hsz, ⟨I.v0, I.v1, I.v2, I.v3, I.v4, I.v5, I.v6, I.v7, I.x.trans ((Ext.refl _).alloc _), I.b3.ext ((Ext.refl _).alloc _), fun _ => rfl, I.k11, fun _ _ => ⟨_, rfl, hfz, Blk.new _ _ _, fun e => by omega⟩, fun h => absurd (show L 10 = true from h) (by rw [n10]; decide), fun h1 h2 => by obtain ⟨a, y1, y2, y3, y4⟩ := I.ya h1 h2; exact ⟨a, y1, y2, y3.ext ((Ext.refl _).alloc _), y4⟩, fun h1 => by obtain ⟨a, y1, y2, y3, y4⟩ := I.yb h1; exact ⟨a, y1, y2, y3.ext ((Ext.refl _).alloc _), y4⟩, fun _ h9 a b ea eb => by
          have h9 : L 9 = true := h9
          have eb : s 8 = _ := eb
          have ea : Value.pointer (some ⟨W.heap.size, 0, none⟩) = .pointer (some ⟨a, 0, none⟩) := ea
          injection ea with ea; injection ea with ea; injection ea with ea
          cases h11 : L 11 with
          | false => obtain ⟨c, y1, y2, y3, y4⟩ := I.ya h9 h11; rw [y1] at eb; injection eb with eb; injection eb with eb; injection eb with eb; have := y3.lt; omega
          | true => obtain ⟨c, y1, y2, y3, y4⟩ := I.yb h11; rw [y1] at eb; injection eb with eb; injection eb with eb; injection eb with eb; have := y3.lt; omega⟩⟩
    · -- operation 9
      simp only [Region.binds, listed_bit hL] at hdep
      have n11 : L 11 = false := by cases hh : L 11 with | false => rfl | true => rw [I.k11 hh] at hn0; cases hn0
      refine wpOp_step rfl (fun K' hK => ?_)
      go_simp
      exact hK _ _ ⟨_, bit_set hL hsz 9 (by omega), fun jx => if jx = 8 then .pointer (some ⟨W.heap.size, 0, none⟩) else s jx, by first | (simp [frPT]; done) | (simp [frPT]; rfl), by simpa using hsz, ⟨I.v0, I.v1, I.v2, I.v3, I.v4, I.v5, I.v6, I.v7, I.x.trans ((Ext.refl _).alloc _), I.b3.ext ((Ext.refl _).alloc _), I.k10, fun _ => rfl, fun h1 h2 => by obtain ⟨a, y1, y2, y3, y4⟩ := I.za h1 h2; exact ⟨a, y1, y2, y3.ext ((Ext.refl _).alloc _), y4⟩, fun h1 => by obtain ⟨a, y1, y2, y3, y4⟩ := I.zb h1; exact ⟨a, y1, y2, y3.ext ((Ext.refl _).alloc _), y4⟩, fun _ _ => ⟨_, rfl, hfz, Blk.new _ _ _, fun e => by omega⟩, fun h => absurd (show L 11 = true from h) (by rw [n11]; decide), fun h8 _ a b ea eb => by
          have h8 : L 8 = true := h8
          have ea : s 7 = _ := ea
          have eb : Value.pointer (some ⟨W.heap.size, 0, none⟩) = .pointer (some ⟨b, 0, none⟩) := eb
          injection eb with eb; injection eb with eb; injection eb with eb
          cases h10 : L 10 with
          | false => obtain ⟨c, y1, y2, y3, y4⟩ := I.za h8 h10; rw [y1] at ea; injection ea with ea; injection ea with ea; injection ea with ea; have := y3.lt; omega
          | true => obtain ⟨c, y1, y2, y3, y4⟩ := I.zb h10; rw [y1] at ea; injection ea with ea; injection ea with ea; injection ea with ea; have := y3.lt; omega⟩⟩
    · -- operation 10
      simp only [Region.binds, listed_bit hL] at hdep
      have d3 : L 3 = true := by first | simpa [hL] using hdep | (simp [hL, Region.binds] at hdep; simp [hdep])
      have e3 := I.v3 d3
      have d8 : L 8 = true := by first | simpa [hL] using hdep | (simp [hL, Region.binds] at hdep; simp [hdep])
      obtain ⟨a, eP, ha, hB, hag⟩ := I.za d8 hn0
      obtain ⟨q1, q2, q3⟩ := hB.rules
      refine wpOp_step rfl (fun K' hK => ?_)
      rw [e3, eP]
      have IX := Lib.hid I
      have HB := Lib.hid hB
      clear I hB
      go_simp
      exact hK _ _ ⟨_, bit_set hL hsz 10 (by omega), s, by first | (simp [frPT, e3, eP]; done) | (simp [frPT, e3, eP]; rfl), by simpa using hsz, ⟨IX.out.v0, IX.out.v1, IX.out.v2, IX.out.v3, IX.out.v4, IX.out.v5, IX.out.v6, IX.out.v7, (IX.out.x.setNew (p := ⟨a, 0, none⟩) ha _).setNew (p := ⟨a, 1, none⟩) ha _, (IX.out.b3.far (Ne.symm hag) _).far (Ne.symm hag) _, fun _ => d8, IX.out.k11, fun _ h => absurd h (by simp), fun _ => ⟨a, eP, ha, (HB.out.set 0 _).set 1 _, hag⟩, fun h9 h11 => by obtain ⟨c, y1, y2, y3, y4⟩ := IX.out.ya h9 h11; have nn := IX.out.ne d8 h9 _ _ eP y1; exact ⟨c, y1, y2, (y3.far (Ne.symm nn) _).far (Ne.symm nn) _, y4⟩, fun h11 => by obtain ⟨c, y1, y2, y3, y4⟩ := IX.out.yb h11; have nn := IX.out.ne d8 (IX.out.k11 h11) _ _ eP y1; exact ⟨c, y1, y2, (y3.far (Ne.symm nn) _).far (Ne.symm nn) _, y4⟩, IX.out.ne⟩⟩
    · -- operation 11
      simp only [Region.binds, listed_bit hL] at hdep
      have d7 : L 7 = true := by first | simpa [hL] using hdep | (simp [hL, Region.binds] at hdep; simp [hdep])
      have e7 := I.v7 d7
      have d9 : L 9 = true := by first | simpa [hL] using hdep | (simp [hL, Region.binds] at hdep; simp [hdep])
      obtain ⟨a, eP, ha, hB, hag⟩ := I.ya d9 hn0
      obtain ⟨q1, q2, q3⟩ := hB.rules
      refine wpOp_step rfl (fun K' hK => ?_)
      rw [e7, eP]
      have IX := Lib.hid I
      have HB := Lib.hid hB
      clear I hB
      go_simp
      exact hK _ _ ⟨_, bit_set hL hsz 11 (by omega), s, by first | (simp [frPT, e7, eP]; done) | (simp [frPT, e7, eP]; rfl), by simpa using hsz, ⟨IX.out.v0, IX.out.v1, IX.out.v2, IX.out.v3, IX.out.v4, IX.out.v5, IX.out.v6, IX.out.v7, (IX.out.x.setNew (p := ⟨a, 0, none⟩) ha _).setNew (p := ⟨a, 1, none⟩) ha _, (IX.out.b3.far (Ne.symm hag) _).far (Ne.symm hag) _, IX.out.k10, fun _ => d9, fun h8 h10 => by obtain ⟨c, y1, y2, y3, y4⟩ := IX.out.za h8 h10; have nn := IX.out.ne h8 d9 _ _ y1 eP; exact ⟨c, y1, y2, (y3.far nn _).far nn _, y4⟩, fun h10 => by obtain ⟨c, y1, y2, y3, y4⟩ := IX.out.zb h10; have nn := IX.out.ne (IX.out.k10 h10) d9 _ _ y1 eP; exact ⟨c, y1, y2, (y3.far nn _).far nn _, y4⟩, fun _ h => absurd h (by simp), fun _ => ⟨a, eP, ha, (HB.out.set 0 _).set 1 _, hag⟩, IX.out.ne⟩⟩
  · rintro listed act W0 ⟨L, hL, s, rfl, hsz, I⟩ hr
    have ALL : ∀ i, i < 12 → L i = true := fun i hi => by rw [← hL i]; exact all_listed_m (by kernel_rfl) hsz hr i hi
    obtain ⟨a7, e7, _, b7, _⟩ := I.zb (ALL 10 (by omega))
    obtain ⟨a8, e8, _, b8, _⟩ := I.yb (ALL 11 (by omega))
    have xN := Lib.hid I.x
    clear I hL ALL hr hsz
    unfold frPT
    dsimp only
    rw [e7, e8]
    obtain ⟨p1, p2, p3⟩ := b7.rules
    obtain ⟨q1, q2, q3⟩ := b8.rules
    clear C0 C1 B3 b7 b8
    go_upto_region 4 with (fail)
    refine wp_region_ext (by kernel_rfl) (by kernel_rfl) ?_
    repeat (go_big_quiet_step (fail))
    refine wpQuiet_nil ?_
    rintro W ⟨x', rfl⟩
    go_wp2
    go_ret3
    exact ⟨rfl, xN.out.trans ⟨_, rfl⟩⟩
end
end Go.Proofs.YtnhijjcplnomgaaGreat.World
