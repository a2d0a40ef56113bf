/-
  Thing11, as one text (a claim has at most 60 files).
-/
import Derived.Test.YtjpalcejmloocaaGreatCt24
import Derived.Test.YtjpalcejmloocaaGreatCt35
import Derived.Test.YtjpalcejmloocaaGreatCt52
import Derived.Deep.AppendLies
namespace Go.Proofs.YtjpalcejmloocaaGreat.World
open Go.RowKit Go.Proofs.YtjpalcejmloocaaGreat.Plain
set_option linter.unusedVariables false
attribute [local go_sem ↓] Go.wp_at_zero Go.wp_at_succ
namespace MS
end MS
section
variable {w w' w2 : World} {F F' F2 : Nat → Prop} {m : Nat} {S S' : MS} {X : MX}
def tcells (t : PT) (vF : Value) (B : ByteArray) : Array Value := #[.int .i64 t.cls, .int .i64 t.fmt, .int .i64 t.hash, .bool t.fin, vF, .string B]
/-! ### the bytes of a text, on the way -/
/-! ### the region of memory.Thing -/
structure TI (w1 : World) (m bt : Nat) (i tc tf th : Int) (tn : Bool) (L : Nat → Bool) (s : Nat → Value) (W : World) : Prop where
  v0 : L 0 = true → s 18 = .pointer (some ⟨m, 0, none⟩)
  v1 : L 1 = true → s 19 = .pointer (some ⟨m, 0, none⟩)
  v2 : L 2 = true → s 20 = .pointer (some ⟨m, 0, none⟩)
  v3 : L 3 = true → s 21 = .iface 70 (.pointer (some ⟨bt, 0, none⟩))
  v4 : L 4 = true → s 22 = .int .i64 i
  v5 : L 5 = true → s 23 = .int .i64 tc
  v6 : L 6 = true → s 24 = .pointer (some ⟨m, 0, none⟩)
  v7 : L 7 = true → s 25 = .pointer (some ⟨m, 0, none⟩)
  v8 : L 8 = true → s 26 = .pointer (some ⟨m, 0, none⟩)
  v9 : L 9 = true → s 27 = .iface 70 (.pointer (some ⟨bt, 0, none⟩))
  v10 : L 10 = true → s 28 = .int .i64 i
  v11 : L 11 = true → s 29 = .int .i64 tf
  v12 : L 12 = true → s 30 = .pointer (some ⟨m, 0, none⟩)
  v13 : L 13 = true → s 31 = .pointer (some ⟨m, 0, none⟩)
  v14 : L 14 = true → s 32 = .pointer (some ⟨m, 0, none⟩)
  v15 : L 15 = true → s 33 = .iface 70 (.pointer (some ⟨bt, 0, none⟩))
  v16 : L 16 = true → s 34 = .int .i64 i
  v17 : L 17 = true → s 35 = .int .i64 th
  v18 : L 18 = true → s 36 = .pointer (some ⟨m, 0, none⟩)
  v19 : L 19 = true → s 37 = .pointer (some ⟨m, 0, none⟩)
  v20 : L 20 = true → s 38 = .pointer (some ⟨m, 0, none⟩)
  v21 : L 21 = true → s 39 = .iface 70 (.pointer (some ⟨bt, 0, none⟩))
  v22 : L 22 = true → s 40 = .int .i64 i
  v23 : L 23 = true → s 41 = .bool tn
  v24 : L 24 = true → s 42 = .agg #[.int .i64 tc, .int .i64 tf, .int .i64 th, .bool tn, .slice none 0 0, .string ByteArray.empty]
  x : Ext w1 W
  k26 : L 26 = true → L 25 = true
  za : L 25 = true → L 26 = false → ∃ g, s 5 = .pointer (some ⟨g, 0, none⟩) ∧ w1.heap.size ≤ g ∧ Blk W g 49 #[.int .i64 0, .int .i64 0, .int .i64 0, .bool false, .slice none 0 0, .string ByteArray.empty]
  zb : L 26 = true → ∃ g, s 5 = .pointer (some ⟨g, 0, none⟩) ∧ w1.heap.size ≤ g ∧ Blk W g 49 #[.int .i64 tc, .int .i64 tf, .int .i64 th, .bool tn, .slice none 0 0, .string ByteArray.empty]
def frT (m g4 : Nat) (i : Int) (u s : Nat → Value) : Act := { tmps := #[.pointer (some ⟨m, 0, none⟩), .int .i64 i, u 2, u 3, .pointer (some ⟨g4, 0, none⟩), s 5, u 6, u 7, u 8, u 9, u 10, u 11, u 12, u 13, u 14, u 15, u 16, u 17, s 18, s 19, s 20, s 21, s 22, s 23, s 24, s 25, s 26, s 27, s 28, s 29, s 30, s 31, s 32, s 33, s 34, s 35, s 36, s 37, s 38, s 39, s 40, s 41, s 42, u 43, u 44, u 45, u 46, u 47, u 48, u 49, u 50, u 51, u 52, u 53, u 54, u 55, u 56, u 57, u 58, u 59, u 60, u 61, u 62, u 63, u 64, u 65, u 66, u 67, u 68, u 69, u 70, u 71, u 72, u 73, u 74, u 75, u 76, u 77, u 78, u 79, u 80, u 81, u 82, u 83, u 84, u 85, u 86, u 87, u 88, u 89, u 90, u 91, u 92], defers := [] }
def TInv (w1 : World) (m bt : Nat) (i tc tf th : Int) (tn : Bool) (g4 : Nat) (u : Nat → Value) (listed : Array Bool) (a : Act) (W : World) : Prop :=
  ∃ L : Nat → Bool, (∀ k, listed.getD k false = L k) ∧ ∃ s : Nat → Value, a = frT m g4 i u s ∧ listed.size = 27 ∧ TI w1 m bt i tc tf th tn L s W
end
end Go.Proofs.YtjpalcejmloocaaGreat.World
namespace Go.Proofs.YtjpalcejmloocaaGreat.World
open Go.RowKit Go.Proofs.YtjpalcejmloocaaGreat.Plain
set_option linter.unusedVariables false
attribute [local go_sem ↓] Go.wp_at_zero Go.wp_at_succ
/-! ### the region of memory.Thing's fields -/
structure TF (w1 : World) (m bt g : Nat) (i tc tf th : Int) (tn : Bool) (vF : Value) (v : PV) (jj : Nat) (c : Nat → Nat → Value) (L : Nat → Bool) (s : Nat → Value) (W : World) : Prop where
  v0 : L 0 = true → s 79 = .pointer (some ⟨g, 4, none⟩)
  v1 : L 1 = true → s 80 = vF
  v2 : L 2 = true → s 81 = .pointer (some ⟨m, 0, none⟩)
  v3 : L 3 = true → s 82 = .pointer (some ⟨m, 0, none⟩)
  v4 : L 4 = true → s 83 = .pointer (some ⟨m, 0, none⟩)
  v5 : L 5 = true → s 84 = .iface 70 (.pointer (some ⟨bt, 0, none⟩))
  v6 : L 6 = true → s 85 = .int .i64 i
  v7 : L 7 = true → s 86 = .int .i64 jj
  v8 : L 8 = true → s 87 = .agg #[.bool v.obj, .int .i64 v.n]
  v11 : L 11 = true → s 90 = .pointer (some ⟨g, 4, none⟩)
  x : Ext w1 W
  k10 : L 10 = true → L 1 = true
  k12 : L 12 = true → L 10 = true ∧ L 1 = true
  bA : L 12 = false → Blk W g 49 #[.int .i64 tc, .int .i64 tf, .int .i64 th, .bool tn, vF, .string ByteArray.empty]
  oA : L 10 = false → Own W w1.heap.size 38 vF jj 2 c
  nA : L 9 = true → L 10 = false → ∃ gb, s 88 = .slice (some ⟨gb, 0, none⟩) 1 1 ∧ Blk W gb 38 #[.bool v.obj, .int .i64 v.n]
  oB : L 10 = true → (∃ gg cc, s 89 = .slice (some ⟨gg, 0, none⟩) (jj + 1) cc) ∧ Own W w1.heap.size 38 (s 89) (jj + 1) 2 c
  bB : L 12 = true → Blk W g 49 #[.int .i64 tc, .int .i64 tf, .int .i64 th, .bool tn, (s 89), .string ByteArray.empty]
def frU (m g4 g jj : Nat) (i : Int) (u s : Nat → Value) : Act := { tmps := #[.pointer (some ⟨m, 0, none⟩), .int .i64 i, u 2, u 3, .pointer (some ⟨g4, 0, none⟩), .pointer (some ⟨g, 0, none⟩), u 6, u 7, u 8, .int .i64 jj, u 10, u 11, u 12, u 13, u 14, u 15, u 16, u 17, u 18, u 19, u 20, u 21, u 22, u 23, u 24, u 25, u 26, u 27, u 28, u 29, u 30, u 31, u 32, u 33, u 34, u 35, u 36, u 37, u 38, u 39, u 40, u 41, u 42, u 43, u 44, u 45, u 46, u 47, u 48, u 49, u 50, u 51, u 52, u 53, u 54, u 55, u 56, u 57, u 58, u 59, u 60, u 61, u 62, u 63, u 64, u 65, u 66, u 67, u 68, u 69, u 70, u 71, u 72, u 73, u 74, u 75, .int .i64 jj, u 77, u 78, s 79, s 80, s 81, s 82, s 83, s 84, s 85, s 86, s 87, s 88, s 89, s 90, u 91, u 92], defers := [] }
def TFInv (w1 : World) (m bt g : Nat) (i tc tf th : Int) (tn : Bool) (vF : Value) (v : PV) (jj : Nat) (c : Nat → Nat → Value) (g4 : Nat) (u : Nat → Value) (listed : Array Bool) (a : Act) (W : World) : Prop :=
  ∃ L : Nat → Bool, (∀ k, listed.getD k false = L k) ∧ ∃ s : Nat → Value, a = frU m g4 g jj i u s ∧ listed.size = 13 ∧ TF w1 m bt g i tc tf th tn vF v jj c L s W
section
variable {w w' w2 : World} {F F' F2 : Nat → Prop} {m : Nat} {S S' : MS} {X : MX}
set_option maxRecDepth 100000 in
set_option maxHeartbeats 1000000 in
/-- a copy of a thing with fields -/
theorem mthingF (h : M w F m S) (i : Int) (hi : S.has i = true) (hf : S.fmt i ≠ 3) : Calls Tryz.prog 13 #[.pointer (some ⟨m, 0, none⟩), .int .i64 i] w fun e w' => ∃ vF, e = .returned (.agg (tcells (S.t i) vF ByteArray.empty)) ∧ Own w' w.heap.size 38 vF (S.t i).F.length 2 (cF (S.t i).F) ∧ Ext w w' := by
  have hi2 := MS.has_lt hi
  have hlen := h.wf.len
  have hlast := h.wf.last
  have hnB := h.wf.nF i.toNat (by omega)
  have hnF := h.wf.noB i.toNat (by omega)
  obtain ⟨X, hX⟩ := h
  obtain ⟨z1, _, ltm⟩ := hX.bm.rules
  have c0 : w.cell? ⟨m, 0, none⟩ = some (.iface 70 (.pointer (some ⟨X.bt, 0, none⟩))) := z1 0
  have C0 := Lib.hid c0
  have wf := hX.wf
  have CH := Lib.hid (fun W [x : IsExt w W] => hi ▸ thas (hX.ext x.out).ts wf i)
  have CC := Lib.hid (fun W [x : IsExt w W] => tclass (hX.ext x.out).ts wf i)
  have CF := Lib.hid (fun W [x : IsExt w W] => tfmt (hX.ext x.out).ts wf i)
  have CA := Lib.hid (fun W [x : IsExt w W] => thash (hX.ext x.out).ts wf i)
  have CL := Lib.hid (fun W [x : IsExt w W] => tfinal (hX.ext x.out).ts wf i)
  have CS := Lib.hid (fun W [x : IsExt w W] => tsize (hX.ext x.out).ts wf i)
  have CB : Hid (∀ (l : Nat), l < (S.t i).F.length → Hid (∀ W [x : IsExt w W], Calls Tryz.prog 171 #[.pointer (some ⟨X.bt, 0, none⟩), .int .i64 i, .int .i64 l] W fun e w' => e = .returned (val (vAt (S.t i).F l)) ∧ Ext W w')) := Lib.hid (fun l hl => Lib.hid (fun W x => by
    obtain ⟨k, rfl⟩ := Int.eq_ofNat_of_zero_le hi2.1
    have hq : (tAt S.L k).F.length ≤ 60 := (by have := hnB; rw [Int.toNat_natCast] at this; exact this)
    exact tfield (hX.ext x.out).ts k l (by omega) hl (by omega) (by omega)))
  have e1 : S.cls i = (S.t i).cls := by unfold MS.cls; rw [if_pos hi]
  have e2 : S.hash i = (S.t i).hash := by unfold MS.hash; rw [if_pos hi]
  have e3 : S.final i = (S.t i).fin := by unfold MS.final; rw [hi]; rfl
  have e4 : S.fmt i = (S.t i).fmt := by unfold MS.fmt; rw [if_pos hi]
  have e5 : S.size i = ((S.t i).F.length : Int) := by
    have hF : (S.t i).B.size = 0 := hnF (e4 ▸ hf)
    unfold MS.size; rw [if_pos hi, hF]; simp
  rw [e1] at CC
  rw [e4] at CF hf
  rw [e2] at CA
  rw [e3] at CL
  rw [e5] at CS
  clear hX z1 wf e1 e2 e3 e4 e5 hnF
  have hB : (S.t i).F.length ≤ 60 := hnB
  generalize S.t i = t at *
  obtain ⟨tc, tf, th, tn, tF, tB⟩ := t
  simp only at hf hB CC CF CA CL CS CB
  have hf3 : (tf == 3) = false := beq_eq_false_iff_ne.2 hf
  generalize X.bt = bt at *
  clear hnB
  go_enter Tryz.func13, Tryz.ntmps13
  go_wp2_with fail
  refine (CH.out _).mono ?_
  rintro e w1 ⟨rfl, x1⟩
  have i1 : IsExt w w1 := ⟨(is_ext w _).trans x1⟩
  have BR := Lib.hid ((Blk.new w 49 #[.int .i64 0, .int .i64 0, .int .i64 0, .bool false, .slice none 0 0, .string ByteArray.empty]).ext x1)
  clear x1 CH c0
  have c1 := (i1.out.below.cell (p := ⟨m, 0, none⟩) ltm).trans C0.out
  have l1 := Nat.lt_of_lt_of_le ltm i1.out.below.size
  go_upto_region 3 with (fail)
  have hm1 := c1
  have ltm1 := l1
  clear c1 l1
  refine wp_any_act (fun A hA => ?_)
  have eA : A = frT m w.heap.size i (fun q => A.tmps.getD q undef) (fun q => A.tmps.getD q undef) := by rw [hA]; rfl
  clear hA
  generalize (fun q => A.tmps.getD q undef) = u at eA
  subst eA
  refine wp_region_inv (Inv := TInv w1 m bt i tc tf th tn w.heap.size u) (by kernel_rfl) ?_ ?_ ?_
  · refine ⟨fun _ => false, fun k => ?_, u, rfl, by simp, ⟨?_, ?_, ?_, ?_, ?_, ?_, ?_, ?_, ?_, ?_, ?_, ?_, ?_, ?_, ?_, ?_, ?_, ?_, ?_, ?_, ?_, ?_, ?_, ?_, ?_, ?_, ?_, ?_, ?_⟩⟩
    · rw [Array.getD_eq_getD_getElem?, Array.getElem?_replicate]; split <;> rfl
    all_goals first | exact is_ext w1 _ | (intro h; exact absurd h (by decide))
  · rintro listed a W ii ⟨L, hL, s, rfl, hsz, I⟩ hi
    obtain ⟨hlt, hnot, hdep⟩ := (ready_iff _ _).1 hi
    have hi27 : ii < 27 := hlt
    have cases27 : ii = 0 ∨ ii = 1 ∨ ii = 2 ∨ ii = 3 ∨ ii = 4 ∨ ii = 5 ∨ ii = 6 ∨ ii = 7 ∨ ii = 8 ∨ ii = 9 ∨ ii = 10 ∨ ii = 11 ∨ ii = 12 ∨ ii = 13 ∨ ii = 14 ∨ ii = 15 ∨ ii = 16 ∨ ii = 17 ∨ ii = 18 ∨ ii = 19 ∨ ii = 20 ∨ ii = 21 ∨ ii = 22 ∨ ii = 23 ∨ ii = 24 ∨ ii = 25 ∨ ii = 26 := by omega
    have hn0 : L ii = false := by rw [← hL ii]; exact not_bit hnot
    clear hi hlt hi27 hnot
    have iW : IsExt w1 W := ⟨I.x⟩
    have jW : IsExt w W := ⟨i1.out.trans I.x⟩
    have hc := (I.x.below.cell (p := ⟨m, 0, none⟩) ltm1).trans hm1
    have hfz := I.x.below.size
    unfold frT
    rcases cases27 with rfl | rfl | rfl | rfl | rfl | rfl | rfl | rfl | rfl | rfl | rfl | rfl | rfl | rfl | rfl | rfl | rfl | rfl | rfl | rfl | rfl | rfl | rfl | rfl | rfl | rfl | rfl
    · -- operation 0
      simp only [Region.binds, listed_bit hL] at hdep
      refine wpOp_step rfl (fun K' hK => ?_)
      go_simp
      exact hK _ _ ⟨_, bit_set hL hsz 0 (by omega), fun j => if j = 18 then .pointer (some ⟨m, 0, none⟩) else s j, by first | (simp [frT]; done) | (simp [frT]; rfl), by simpa using hsz, ⟨fun _ => rfl, I.v1, I.v2, I.v3, I.v4, I.v5, I.v6, I.v7, I.v8, I.v9, I.v10, I.v11, I.v12, I.v13, I.v14, I.v15, I.v16, I.v17, I.v18, I.v19, I.v20, I.v21, I.v22, I.v23, I.v24, I.x, I.k26, I.za, I.zb⟩⟩
    · -- operation 1
      simp only [Region.binds, listed_bit hL] at hdep
      have d0 : L 0 = true := by first | simpa [hL] using hdep | (simp [hL, Region.binds] at hdep; simp [hdep])
      have e0 := I.v0 d0
      refine wpOp_step rfl (fun K' hK => ?_)
      rw [e0]
      go_simp
      exact hK _ _ ⟨_, bit_set hL hsz 1 (by omega), fun j => if j = 19 then .pointer (some ⟨m, 0, none⟩) else s j, by first | (simp [frT, e0]; done) | (simp [frT, e0]; rfl), by simpa using hsz, ⟨I.v0, fun _ => rfl, I.v2, I.v3, I.v4, I.v5, I.v6, I.v7, I.v8, I.v9, I.v10, I.v11, I.v12, I.v13, I.v14, I.v15, I.v16, I.v17, I.v18, I.v19, I.v20, I.v21, I.v22, I.v23, I.v24, I.x, I.k26, I.za, I.zb⟩⟩
    · -- operation 2
      simp only [Region.binds, listed_bit hL] at hdep
      have d1 : L 1 = true := by first | simpa [hL] using hdep | (simp [hL, Region.binds] at hdep; simp [hdep])
      have e1 := I.v1 d1
      refine wpOp_step rfl (fun K' hK => ?_)
      rw [e1]
      go_simp
      exact hK _ _ ⟨_, bit_set hL hsz 2 (by omega), fun j => if j = 20 then .pointer (some ⟨m, 0, none⟩) else s j, by first | (simp [frT, e1]; done) | (simp [frT, e1]; rfl), by simpa using hsz, ⟨I.v0, I.v1, fun _ => rfl, I.v3, I.v4, I.v5, I.v6, I.v7, I.v8, I.v9, I.v10, I.v11, I.v12, I.v13, I.v14, I.v15, I.v16, I.v17, I.v18, I.v19, I.v20, I.v21, I.v22, I.v23, I.v24, I.x, I.k26, I.za, I.zb⟩⟩
    · -- operation 3
      simp only [Region.binds, listed_bit hL] at hdep
      have d2 : L 2 = true := by first | simpa [hL] using hdep | (simp [hL, Region.binds] at hdep; simp [hdep])
      have e2 := I.v2 d2
      refine wpOp_step rfl (fun K' hK => ?_)
      rw [e2]
      go_simp
      exact hK _ _ ⟨_, bit_set hL hsz 3 (by omega), fun j => if j = 21 then .iface 70 (.pointer (some ⟨bt, 0, none⟩)) else s j, by first | (simp [frT, e2]; done) | (simp [frT, e2]; rfl), by simpa using hsz, ⟨I.v0, I.v1, I.v2, fun _ => rfl, I.v4, I.v5, I.v6, I.v7, I.v8, I.v9, I.v10, I.v11, I.v12, I.v13, I.v14, I.v15, I.v16, I.v17, I.v18, I.v19, I.v20, I.v21, I.v22, I.v23, I.v24, I.x, I.k26, I.za, I.zb⟩⟩
    · -- operation 4
      simp only [Region.binds, listed_bit hL] at hdep
      refine wpOp_step rfl (fun K' hK => ?_)
      go_simp
      exact hK _ _ ⟨_, bit_set hL hsz 4 (by omega), fun j => if j = 22 then .int .i64 i else s j, by first | (simp [frT]; done) | (simp [frT]; rfl), by simpa using hsz, ⟨I.v0, I.v1, I.v2, I.v3, fun _ => rfl, I.v5, I.v6, I.v7, I.v8, I.v9, I.v10, I.v11, I.v12, I.v13, I.v14, I.v15, I.v16, I.v17, I.v18, I.v19, I.v20, I.v21, I.v22, I.v23, I.v24, I.x, I.k26, I.za, I.zb⟩⟩
    · -- operation 5
      simp only [Region.binds, listed_bit hL] at hdep
      have d3 : L 3 = true := by first | simpa [hL] using hdep | (simp [hL, Region.binds] at hdep; simp [hdep])
      have e3 := I.v3 d3
      have d4 : L 4 = true := by first | simpa [hL] using hdep | (simp [hL, Region.binds] at hdep; simp [hdep])
      have e4 := I.v4 d4
      refine wpOp_step rfl (fun K' hK => ?_)
      rw [e3, e4]
      go_simp
      refine (CC.out _).mono ?_
      rintro e w3 ⟨rfl, x3⟩
      exact hK _ _ ⟨_, bit_set hL hsz 5 (by omega), fun j => if j = 23 then .int .i64 tc else s j, by first | (simp [frT, e3, e4]; done) | (simp [frT, e3, e4]; rfl), by simpa using hsz, ⟨I.v0, I.v1, I.v2, I.v3, I.v4, fun _ => rfl, I.v6, I.v7, I.v8, I.v9, I.v10, I.v11, I.v12, I.v13, I.v14, I.v15, I.v16, I.v17, I.v18, I.v19, I.v20, I.v21, I.v22, I.v23, I.v24, I.x.trans x3, I.k26, fun h1 h2 => by obtain ⟨g, y1, y2, y3⟩ := I.za h1 h2; exact ⟨g, y1, y2, y3.ext x3⟩, fun h1 => by obtain ⟨g, y1, y2, y3⟩ := I.zb h1; exact ⟨g, y1, y2, y3.ext x3⟩⟩⟩
    · -- operation 6
      simp only [Region.binds, listed_bit hL] at hdep
      refine wpOp_step rfl (fun K' hK => ?_)
      go_simp
      exact hK _ _ ⟨_, bit_set hL hsz 6 (by omega), fun j => if j = 24 then .pointer (some ⟨m, 0, none⟩) else s j, by first | (simp [frT]; done) | (simp [frT]; rfl), by simpa using hsz, ⟨I.v0, I.v1, I.v2, I.v3, I.v4, I.v5, fun _ => rfl, I.v7, I.v8, I.v9, I.v10, I.v11, I.v12, I.v13, I.v14, I.v15, I.v16, I.v17, I.v18, I.v19, I.v20, I.v21, I.v22, I.v23, I.v24, I.x, I.k26, I.za, I.zb⟩⟩
    · -- operation 7
      simp only [Region.binds, listed_bit hL] at hdep
      have d6 : L 6 = true := by first | simpa [hL] using hdep | (simp [hL, Region.binds] at hdep; simp [hdep])
      have e6 := I.v6 d6
      refine wpOp_step rfl (fun K' hK => ?_)
      rw [e6]
      go_simp
      exact hK _ _ ⟨_, bit_set hL hsz 7 (by omega), fun j => if j = 25 then .pointer (some ⟨m, 0, none⟩) else s j, by first | (simp [frT, e6]; done) | (simp [frT, e6]; rfl), by simpa using hsz, ⟨I.v0, I.v1, I.v2, I.v3, I.v4, I.v5, I.v6, fun _ => rfl, I.v8, I.v9, I.v10, I.v11, I.v12, I.v13, I.v14, I.v15, I.v16, I.v17, I.v18, I.v19, I.v20, I.v21, I.v22, I.v23, I.v24, I.x, I.k26, I.za, I.zb⟩⟩
    · -- operation 8
      simp only [Region.binds, listed_bit hL] at hdep
      have d7 : L 7 = true := by first | simpa [hL] using hdep | (simp [hL, Region.binds] at hdep; simp [hdep])
      have e7 := I.v7 d7
      refine wpOp_step rfl (fun K' hK => ?_)
      rw [e7]
      go_simp
      exact hK _ _ ⟨_, bit_set hL hsz 8 (by omega), fun j => if j = 26 then .pointer (some ⟨m, 0, none⟩) else s j, by first | (simp [frT, e7]; done) | (simp [frT, e7]; rfl), by simpa using hsz, ⟨I.v0, I.v1, I.v2, I.v3, I.v4, I.v5, I.v6, I.v7, fun _ => rfl, I.v9, I.v10, I.v11, I.v12, I.v13, I.v14, I.v15, I.v16, I.v17, I.v18, I.v19, I.v20, I.v21, I.v22, I.v23, I.v24, I.x, I.k26, I.za, I.zb⟩⟩
    · -- operation 9
      simp only [Region.binds, listed_bit hL] at hdep
      have d8 : L 8 = true := by first | simpa [hL] using hdep | (simp [hL, Region.binds] at hdep; simp [hdep])
      have e8 := I.v8 d8
      refine wpOp_step rfl (fun K' hK => ?_)
      rw [e8]
      go_simp
      exact hK _ _ ⟨_, bit_set hL hsz 9 (by omega), fun j => if j = 27 then .iface 70 (.pointer (some ⟨bt, 0, none⟩)) else s j, by first | (simp [frT, e8]; done) | (simp [frT, e8]; rfl), by simpa using hsz, ⟨I.v0, I.v1, I.v2, I.v3, I.v4, I.v5, I.v6, I.v7, I.v8, fun _ => rfl, I.v10, I.v11, I.v12, I.v13, I.v14, I.v15, I.v16, I.v17, I.v18, I.v19, I.v20, I.v21, I.v22, I.v23, I.v24, I.x, I.k26, I.za, I.zb⟩⟩
    · -- operation 10
      simp only [Region.binds, listed_bit hL] at hdep
      refine wpOp_step rfl (fun K' hK => ?_)
      go_simp
      exact hK _ _ ⟨_, bit_set hL hsz 10 (by omega), fun j => if j = 28 then .int .i64 i else s j, by first | (simp [frT]; done) | (simp [frT]; rfl), by simpa using hsz, ⟨I.v0, I.v1, I.v2, I.v3, I.v4, I.v5, I.v6, I.v7, I.v8, I.v9, fun _ => rfl, I.v11, I.v12, I.v13, I.v14, I.v15, I.v16, I.v17, I.v18, I.v19, I.v20, I.v21, I.v22, I.v23, I.v24, I.x, I.k26, I.za, I.zb⟩⟩
    · -- operation 11
      simp only [Region.binds, listed_bit hL] at hdep
      have d9 : L 9 = true := by first | simpa [hL] using hdep | (simp [hL, Region.binds] at hdep; simp [hdep])
      have e9 := I.v9 d9
      have d10 : L 10 = true := by first | simpa [hL] using hdep | (simp [hL, Region.binds] at hdep; simp [hdep])
      have e10 := I.v10 d10
      refine wpOp_step rfl (fun K' hK => ?_)
      rw [e9, e10]
      go_simp
      refine (CF.out _).mono ?_
      rintro e w3 ⟨rfl, x3⟩
      exact hK _ _ ⟨_, bit_set hL hsz 11 (by omega), fun j => if j = 29 then .int .i64 tf else s j, by first | (simp [frT, e9, e10]; done) | (simp [frT, e9, e10]; rfl), by simpa using hsz, ⟨I.v0, I.v1, I.v2, I.v3, I.v4, I.v5, I.v6, I.v7, I.v8, I.v9, I.v10, fun _ => rfl, I.v12, I.v13, I.v14, I.v15, I.v16, I.v17, I.v18, I.v19, I.v20, I.v21, I.v22, I.v23, I.v24, I.x.trans x3, I.k26, fun h1 h2 => by obtain ⟨g, y1, y2, y3⟩ := I.za h1 h2; exact ⟨g, y1, y2, y3.ext x3⟩, fun h1 => by obtain ⟨g, y1, y2, y3⟩ := I.zb h1; exact ⟨g, y1, y2, y3.ext x3⟩⟩⟩
    · -- operation 12
      simp only [Region.binds, listed_bit hL] at hdep
      refine wpOp_step rfl (fun K' hK => ?_)
      go_simp
      exact hK _ _ ⟨_, bit_set hL hsz 12 (by omega), fun j => if j = 30 then .pointer (some ⟨m, 0, none⟩) else s j, by first | (simp [frT]; done) | (simp [frT]; rfl), by simpa using hsz, ⟨I.v0, I.v1, I.v2, I.v3, I.v4, I.v5, I.v6, I.v7, I.v8, I.v9, I.v10, I.v11, fun _ => rfl, I.v13, I.v14, I.v15, I.v16, I.v17, I.v18, I.v19, I.v20, I.v21, I.v22, I.v23, I.v24, I.x, I.k26, I.za, I.zb⟩⟩
    · -- operation 13
      simp only [Region.binds, listed_bit hL] at hdep
      have d12 : L 12 = true := by first | simpa [hL] using hdep | (simp [hL, Region.binds] at hdep; simp [hdep])
      have e12 := I.v12 d12
      refine wpOp_step rfl (fun K' hK => ?_)
      rw [e12]
      go_simp
      exact hK _ _ ⟨_, bit_set hL hsz 13 (by omega), fun j => if j = 31 then .pointer (some ⟨m, 0, none⟩) else s j, by first | (simp [frT, e12]; done) | (simp [frT, e12]; rfl), by simpa using hsz, ⟨I.v0, I.v1, I.v2, I.v3, I.v4, I.v5, I.v6, I.v7, I.v8, I.v9, I.v10, I.v11, I.v12, fun _ => rfl, I.v14, I.v15, I.v16, I.v17, I.v18, I.v19, I.v20, I.v21, I.v22, I.v23, I.v24, I.x, I.k26, I.za, I.zb⟩⟩
    · -- operation 14
      simp only [Region.binds, listed_bit hL] at hdep
      have d13 : L 13 = true := by first | simpa [hL] using hdep | (simp [hL, Region.binds] at hdep; simp [hdep])
      have e13 := I.v13 d13
      refine wpOp_step rfl (fun K' hK => ?_)
      rw [e13]
      go_simp
      exact hK _ _ ⟨_, bit_set hL hsz 14 (by omega), fun j => if j = 32 then .pointer (some ⟨m, 0, none⟩) else s j, by first | (simp [frT, e13]; done) | (simp [frT, e13]; rfl), by simpa using hsz, ⟨I.v0, I.v1, I.v2, I.v3, I.v4, I.v5, I.v6, I.v7, I.v8, I.v9, I.v10, I.v11, I.v12, I.v13, fun _ => rfl, I.v15, I.v16, I.v17, I.v18, I.v19, I.v20, I.v21, I.v22, I.v23, I.v24, I.x, I.k26, I.za, I.zb⟩⟩
    · -- operation 15
      simp only [Region.binds, listed_bit hL] at hdep
      have d14 : L 14 = true := by first | simpa [hL] using hdep | (simp [hL, Region.binds] at hdep; simp [hdep])
      have e14 := I.v14 d14
      refine wpOp_step rfl (fun K' hK => ?_)
      rw [e14]
      go_simp
      exact hK _ _ ⟨_, bit_set hL hsz 15 (by omega), fun j => if j = 33 then .iface 70 (.pointer (some ⟨bt, 0, none⟩)) else s j, by first | (simp [frT, e14]; done) | (simp [frT, e14]; rfl), by simpa using hsz, ⟨I.v0, I.v1, I.v2, I.v3, I.v4, I.v5, I.v6, I.v7, I.v8, I.v9, I.v10, I.v11, I.v12, I.v13, I.v14, fun _ => rfl, I.v16, I.v17, I.v18, I.v19, I.v20, I.v21, I.v22, I.v23, I.v24, I.x, I.k26, I.za, I.zb⟩⟩
    · -- operation 16
      simp only [Region.binds, listed_bit hL] at hdep
      refine wpOp_step rfl (fun K' hK => ?_)
      go_simp
      exact hK _ _ ⟨_, bit_set hL hsz 16 (by omega), fun j => if j = 34 then .int .i64 i else s j, by first | (simp [frT]; done) | (simp [frT]; rfl), by simpa using hsz, ⟨I.v0, I.v1, I.v2, I.v3, I.v4, I.v5, I.v6, I.v7, I.v8, I.v9, I.v10, I.v11, I.v12, I.v13, I.v14, I.v15, fun _ => rfl, I.v17, I.v18, I.v19, I.v20, I.v21, I.v22, I.v23, I.v24, I.x, I.k26, I.za, I.zb⟩⟩
    · -- operation 17
      simp only [Region.binds, listed_bit hL] at hdep
      have d15 : L 15 = true := by first | simpa [hL] using hdep | (simp [hL, Region.binds] at hdep; simp [hdep])
      have e15 := I.v15 d15
      have d16 : L 16 = true := by first | simpa [hL] using hdep | (simp [hL, Region.binds] at hdep; simp [hdep])
      have e16 := I.v16 d16
      refine wpOp_step rfl (fun K' hK => ?_)
      rw [e15, e16]
      go_simp
      refine (CA.out _).mono ?_
      rintro e w3 ⟨rfl, x3⟩
      exact hK _ _ ⟨_, bit_set hL hsz 17 (by omega), fun j => if j = 35 then .int .i64 th else s j, by first | (simp [frT, e15, e16]; done) | (simp [frT, e15, e16]; rfl), by simpa using hsz, ⟨I.v0, I.v1, I.v2, I.v3, I.v4, I.v5, I.v6, I.v7, I.v8, I.v9, I.v10, I.v11, I.v12, I.v13, I.v14, I.v15, I.v16, fun _ => rfl, I.v18, I.v19, I.v20, I.v21, I.v22, I.v23, I.v24, I.x.trans x3, I.k26, fun h1 h2 => by obtain ⟨g, y1, y2, y3⟩ := I.za h1 h2; exact ⟨g, y1, y2, y3.ext x3⟩, fun h1 => by obtain ⟨g, y1, y2, y3⟩ := I.zb h1; exact ⟨g, y1, y2, y3.ext x3⟩⟩⟩
    · -- operation 18
      simp only [Region.binds, listed_bit hL] at hdep
      refine wpOp_step rfl (fun K' hK => ?_)
      go_simp
      exact hK _ _ ⟨_, bit_set hL hsz 18 (by omega), fun j => if j = 36 then .pointer (some ⟨m, 0, none⟩) else s j, by first | (simp [frT]; done) | (simp [frT]; rfl), by simpa using hsz, ⟨I.v0, I.v1, I.v2, I.v3, I.v4, I.v5, I.v6, I.v7, I.v8, I.v9, I.v10, I.v11, I.v12, I.v13, I.v14, I.v15, I.v16, I.v17, fun _ => rfl, I.v19, I.v20, I.v21, I.v22, I.v23, I.v24, I.x, I.k26, I.za, I.zb⟩⟩
    · -- operation 19
      simp only [Region.binds, listed_bit hL] at hdep
      have d18 : L 18 = true := by first | simpa [hL] using hdep | (simp [hL, Region.binds] at hdep; simp [hdep])
      have e18 := I.v18 d18
      refine wpOp_step rfl (fun K' hK => ?_)
      rw [e18]
      go_simp
      exact hK _ _ ⟨_, bit_set hL hsz 19 (by omega), fun j => if j = 37 then .pointer (some ⟨m, 0, none⟩) else s j, by first | (simp [frT, e18]; done) | (simp [frT, e18]; rfl), by simpa using hsz, ⟨I.v0, I.v1, I.v2, I.v3, I.v4, I.v5, I.v6, I.v7, I.v8, I.v9, I.v10, I.v11, I.v12, I.v13, I.v14, I.v15, I.v16, I.v17, I.v18, fun _ => rfl, I.v20, I.v21, I.v22, I.v23, I.v24, I.x, I.k26, I.za, I.zb⟩⟩
    · -- operation 20
      simp only [Region.binds, listed_bit hL] at hdep
      have d19 : L 19 = true := by first | simpa [hL] using hdep | (simp [hL, Region.binds] at hdep; simp [hdep])
      have e19 := I.v19 d19
      refine wpOp_step rfl (fun K' hK => ?_)
      rw [e19]
      go_simp
      exact hK _ _ ⟨_, bit_set hL hsz 20 (by omega), fun j => if j = 38 then .pointer (some ⟨m, 0, none⟩) else s j, by first | (simp [frT, e19]; done) | (simp [frT, e19]; rfl), by simpa using hsz, ⟨I.v0, I.v1, I.v2, I.v3, I.v4, I.v5, I.v6, I.v7, I.v8, I.v9, I.v10, I.v11, I.v12, I.v13, I.v14, I.v15, I.v16, I.v17, I.v18, I.v19, fun _ => rfl, I.v21, I.v22, I.v23, I.v24, I.x, I.k26, I.za, I.zb⟩⟩
    · -- operation 21
      simp only [Region.binds, listed_bit hL] at hdep
      have d20 : L 20 = true := by first | simpa [hL] using hdep | (simp [hL, Region.binds] at hdep; simp [hdep])
      have e20 := I.v20 d20
      refine wpOp_step rfl (fun K' hK => ?_)
      rw [e20]
      go_simp
      exact hK _ _ ⟨_, bit_set hL hsz 21 (by omega), fun j => if j = 39 then .iface 70 (.pointer (some ⟨bt, 0, none⟩)) else s j, by first | (simp [frT, e20]; done) | (simp [frT, e20]; rfl), by simpa using hsz, ⟨I.v0, I.v1, I.v2, I.v3, I.v4, I.v5, I.v6, I.v7, I.v8, I.v9, I.v10, I.v11, I.v12, I.v13, I.v14, I.v15, I.v16, I.v17, I.v18, I.v19, I.v20, fun _ => rfl, I.v22, I.v23, I.v24, I.x, I.k26, I.za, I.zb⟩⟩
    · -- operation 22
      simp only [Region.binds, listed_bit hL] at hdep
      refine wpOp_step rfl (fun K' hK => ?_)
      go_simp
      exact hK _ _ ⟨_, bit_set hL hsz 22 (by omega), fun j => if j = 40 then .int .i64 i else s j, by first | (simp [frT]; done) | (simp [frT]; rfl), by simpa using hsz, ⟨I.v0, I.v1, I.v2, I.v3, I.v4, I.v5, I.v6, I.v7, I.v8, I.v9, I.v10, I.v11, I.v12, I.v13, I.v14, I.v15, I.v16, I.v17, I.v18, I.v19, I.v20, I.v21, fun _ => rfl, I.v23, I.v24, I.x, I.k26, I.za, I.zb⟩⟩
    · -- operation 23
      simp only [Region.binds, listed_bit hL] at hdep
      have d21 : L 21 = true := by first | simpa [hL] using hdep | (simp [hL, Region.binds] at hdep; simp [hdep])
      have e21 := I.v21 d21
      have d22 : L 22 = true := by first | simpa [hL] using hdep | (simp [hL, Region.binds] at hdep; simp [hdep])
      have e22 := I.v22 d22
      refine wpOp_step rfl (fun K' hK => ?_)
      rw [e21, e22]
      go_simp
      refine (CL.out _).mono ?_
      rintro e w3 ⟨rfl, x3⟩
      exact hK _ _ ⟨_, bit_set hL hsz 23 (by omega), fun j => if j = 41 then .bool tn else s j, by first | (simp [frT, e21, e22]; done) | (simp [frT, e21, e22]; rfl), by simpa using hsz, ⟨I.v0, I.v1, I.v2, I.v3, I.v4, I.v5, I.v6, I.v7, I.v8, I.v9, I.v10, I.v11, I.v12, I.v13, I.v14, I.v15, I.v16, I.v17, I.v18, I.v19, I.v20, I.v21, I.v22, fun _ => rfl, I.v24, I.x.trans x3, I.k26, fun h1 h2 => by obtain ⟨g, y1, y2, y3⟩ := I.za h1 h2; exact ⟨g, y1, y2, y3.ext x3⟩, fun h1 => by obtain ⟨g, y1, y2, y3⟩ := I.zb h1; exact ⟨g, y1, y2, y3.ext x3⟩⟩⟩
    · -- operation 24
      simp only [Region.binds, listed_bit hL] at hdep
      have d5 : L 5 = true := by first | simpa [hL] using hdep | (simp [hL, Region.binds] at hdep; simp [hdep])
      have e5 := I.v5 d5
      have d11 : L 11 = true := by first | simpa [hL] using hdep | (simp [hL, Region.binds] at hdep; simp [hdep])
      have e11 := I.v11 d11
      have d17 : L 17 = true := by first | simpa [hL] using hdep | (simp [hL, Region.binds] at hdep; simp [hdep])
      have e17 := I.v17 d17
      have d23 : L 23 = true := by first | simpa [hL] using hdep | (simp [hL, Region.binds] at hdep; simp [hdep])
      have e23 := I.v23 d23
      refine wpOp_step rfl (fun K' hK => ?_)
      rw [e5, e11, e17, e23]
      go_simp
      exact hK _ _ ⟨_, bit_set hL hsz 24 (by omega), fun j => if j = 42 then .agg #[.int .i64 tc, .int .i64 tf, .int .i64 th, .bool tn, .slice none 0 0, .string ByteArray.empty] else s j, by first | (simp [frT, e5, e11, e17, e23]; done) | (simp [frT, e5, e11, e17, e23]; rfl), by simpa using hsz, ⟨I.v0, I.v1, I.v2, I.v3, I.v4, I.v5, I.v6, I.v7, I.v8, I.v9, I.v10, I.v11, I.v12, I.v13, I.v14, I.v15, I.v16, I.v17, I.v18, I.v19, I.v20, I.v21, I.v22, I.v23, fun _ => rfl, I.x, I.k26, I.za, I.zb⟩⟩
    · -- operation 25
      simp only [Region.binds, listed_bit hL] at hdep
      have n26 : L 26 = false := by cases hh : L 26 with | false => rfl | true => rw [I.k26 hh] at hn0; cases hn0
      refine wpOp_step rfl (fun K' hK => ?_)
      go_simp
      exact hK _ _ ⟨_, bit_set hL hsz 25 (by omega), fun j => if j = 5 then .pointer (some ⟨W.heap.size, 0, none⟩) else s j, by first | (simp [frT]; done) | (simp [frT]; rfl), by simpa using hsz, ⟨I.v0, I.v1, I.v2, I.v3, I.v4, I.v5, I.v6, I.v7, I.v8, I.v9, I.v10, I.v11, I.v12, I.v13, I.v14, I.v15, I.v16, I.v17, I.v18, I.v19, I.v20, I.v21, I.v22, I.v23, I.v24, is_ext w1 _, fun h => rfl, fun _ _ => ⟨_, rfl, hfz, Blk.new _ _ _⟩, fun h => absurd (show L 26 = true from h) (by rw [n26]; decide)⟩⟩
    · -- operation 26
      simp only [Region.binds, listed_bit hL] at hdep
      have d24 : L 24 = true := by first | simpa [hL] using hdep | (simp [hL, Region.binds] at hdep; simp [hdep])
      have e24 := I.v24 d24
      have d25 : L 25 = true := by first | simpa [hL] using hdep | (simp [hL, Region.binds] at hdep; simp [hdep])
      obtain ⟨g, e25, hg, hB⟩ := I.za d25 hn0
      obtain ⟨q1, q2, q3⟩ := hB.rules
      refine wpOp_step rfl (fun K' hK => ?_)
      rw [e24, e25]
      have IX := Lib.hid I
      have HB := Lib.hid hB
      clear I hB
      go_simp
      exact hK _ _ ⟨_, bit_set hL hsz 26 (by omega), s, by first | (simp [frT, e24, e25]; done) | (simp [frT, e24, e25]; rfl), by simpa using hsz, ⟨IX.out.v0, IX.out.v1, IX.out.v2, IX.out.v3, IX.out.v4, IX.out.v5, IX.out.v6, IX.out.v7, IX.out.v8, IX.out.v9, IX.out.v10, IX.out.v11, IX.out.v12, IX.out.v13, IX.out.v14, IX.out.v15, IX.out.v16, IX.out.v17, IX.out.v18, IX.out.v19, IX.out.v20, IX.out.v21, IX.out.v22, IX.out.v23, IX.out.v24, ((((((IX.out.x.setNew (p := ⟨g, 0, none⟩) hg _).setNew (p := ⟨g, 1, none⟩) hg _).setNew (p := ⟨g, 2, none⟩) hg _).setNew (p := ⟨g, 3, none⟩) hg _).setNew (p := ⟨g, 4, none⟩) hg _).setNew (p := ⟨g, 5, none⟩) hg _), fun _ => d25, fun _ h => absurd h (by simp), fun _ => ⟨g, e25, hg, ((((((HB.out.set 0 _).set 1 _).set 2 _).set 3 _).set 4 _).set 5 _)⟩⟩⟩
  · rintro listed a W ⟨L, hL, s, rfl, hsz, I⟩ hr
    have ALL : ∀ i, i < 27 → L i = true := fun i hi => by rw [← hL i]; exact all_listed_m (by kernel_rfl) hsz hr i hi
    obtain ⟨g, e5, hg, hB⟩ := I.zb (ALL 26 (by omega))
    have hx := I.x
    clear I hL ALL hr hsz
    unfold frT
    dsimp only
    rw [e5]
    have iW : IsExt w W := ⟨i1.out.trans hx⟩
    have iWW : IsExt W W := ⟨Ext.refl _⟩
    have c2 := (iW.out.below.cell (p := ⟨m, 0, none⟩) ltm).trans C0.out
    have b0 := BR.out.lt
    clear hm1 ltm1 CC CF CA CL hf
    go_wp2_with fail
    refine (CS.out _).mono ?_
    rintro e w2 ⟨rfl, x2⟩
    have xw2 := Lib.hid (hx.trans ((is_ext W _).trans x2))
    replace iW : IsExt w w2 := ⟨i1.out.trans xw2.out⟩
    have BT := Lib.hid (hB.ext ((is_ext W _).trans x2))
    obtain ⟨q1, q2, q3⟩ := BT.out.rules
    obtain ⟨iV, iV1, iV2, iV3, iV4⟩ := info_parts infoV
    have s12 := xw2.out.below.size
    clear x2 CS c2 hx hB iWW
    go_wp2_with fail
    go_loopw [9, 76] (fun _ jv wr => ∃ jj : Nat, jj ≤ tF.length ∧ jv = .int .i64 jj ∧ Ext w1 wr ∧ ∃ vF, Blk wr g 49 #[.int .i64 tc, .int .i64 tf, .int .i64 th, .bool tn, vF, .string ByteArray.empty] ∧ Own wr w1.heap.size 38 vF jj 2 (cF tF)) (fun _ jv _ => tF.length - (intOf jv).toNat)
    case atStart => exact ⟨0, by omega, rfl, xw2.out, _, BT.out, World.ownsRow_nil _ _ _ _⟩
    case round =>
      clear q1 q2 q3 BT xw2
      obtain ⟨jj, hj, rfl, xr, vF, bg, of⟩ := hrel
      have XR := Lib.hid xr
      have BG := Lib.hid bg
      have OF := Lib.hid of
      by_cases hlt : jj < tF.length
      · have jI : (jj : Int) < (tF.length : Int) := by omega
        have CFL := CB.out jj hlt
        have hcj : (List.range 2).map (cF tF jj) = [.bool (vAt tF jj).obj, .int .i64 (vAt tF jj).n] := rfl
        unfold val at CFL
        clear xr bg of CB
        generalize vAt tF jj = v at *
        generalize hcc : cF tF = c at *
        go_upto_region 17 with (fail)
        refine wp_any_act (fun A hA => ?_)
        have eA : A = frU m w.heap.size g jj i (fun q => A.tmps.getD q undef) (fun q => A.tmps.getD q undef) := by rw [hA]; rfl
        obtain ⟨uu, huu⟩ : ∃ uu, (fun q => A.tmps.getD q undef) = uu := ⟨_, rfl⟩
        rw [huu] at eA
        rw [hA] at huu
        have HU := Lib.hid huu
        clear hA huu
        subst eA
        refine wp_region_inv (Inv := TFInv w1 m bt g i tc tf th tn vF v jj c w.heap.size uu) (by kernel_rfl) ?_ ?_ ?_
        · refine ⟨fun _ => false, fun k => ?_, uu, rfl, by simp, ⟨?_, ?_, ?_, ?_, ?_, ?_, ?_, ?_, ?_, ?_, ?_, ?_, ?_, ?_, ?_, ?_, ?_, ?_⟩⟩
          · rw [Array.getD_eq_getD_getElem?, Array.getElem?_replicate]; split <;> rfl
          · intro h; exact absurd h (by decide)
          · intro h; exact absurd h (by decide)
          · intro h; exact absurd h (by decide)
          · intro h; exact absurd h (by decide)
          · intro h; exact absurd h (by decide)
          · intro h; exact absurd h (by decide)
          · intro h; exact absurd h (by decide)
          · intro h; exact absurd h (by decide)
          · intro h; exact absurd h (by decide)
          · intro h; exact absurd h (by decide)
          · exact XR.out.drew
          · intro h; exact absurd h (by decide)
          · intro h; exact absurd h (by decide)
          · exact fun _ => BG.out.drew
          · exact fun _ => OF.out.ext ((Ext.refl _).drew)
          · intro h; exact absurd h (by decide)
          · intro h; exact absurd h (by decide)
          · intro h; exact absurd h (by decide)
        · rintro listed a W ii ⟨L, hL, s, rfl, hsz, I⟩ hi
          obtain ⟨hlt, hnot, hdep⟩ := (ready_iff _ _).1 hi
          have hiN : ii < 13 := hlt
          have casesN : ii = 0 ∨ ii = 1 ∨ ii = 2 ∨ ii = 3 ∨ ii = 4 ∨ ii = 5 ∨ ii = 6 ∨ ii = 7 ∨ ii = 8 ∨ ii = 9 ∨ ii = 10 ∨ ii = 11 ∨ ii = 12 := by omega
          have hn0 : L ii = false := by rw [← hL ii]; exact not_bit hnot
          clear hi hlt hiN hnot
          have iW : IsExt w W := ⟨i1.out.trans I.x⟩
          have hc := (iW.out.below.cell (p := ⟨m, 0, none⟩) ltm).trans C0.out
          have hlm : m < W.heap.size := Nat.lt_of_lt_of_le ltm iW.out.below.size
          have hfz := I.x.below.size
          unfold frU
          rcases casesN with rfl | rfl | rfl | rfl | rfl | rfl | rfl | rfl | rfl | rfl | rfl | rfl | rfl
          · -- operation 0
            simp only [Region.binds, listed_bit hL] at hdep
            refine wpOp_step rfl (fun K' hK => ?_)
            go_simp
            exact hK _ _ ⟨_, bit_set hL hsz 0 (by omega), fun j => if j = 79 then .pointer (some ⟨g, 4, none⟩) else s j, by first | (simp [frU]; done) | (simp [frU]; rfl), by simpa using hsz, ⟨fun _ => rfl, I.v1, I.v2, I.v3, I.v4, I.v5, I.v6, I.v7, I.v8, I.v11, I.x, I.k10, I.k12, I.bA, I.oA, I.nA, I.oB, I.bB⟩⟩
          · -- operation 1
            simp only [Region.binds, listed_bit hL] at hdep
            have d0 : L 0 = true := by first | simpa [hL] using hdep | (simp [hL, Region.binds] at hdep; simp [hdep])
            have e0 := I.v0 d0
            have n12 : L 12 = false := by cases hh : L 12 with | false => rfl | true => rw [(I.k12 hh).2] at hn0; cases hn0
            obtain ⟨q1, q2, q3⟩ := (I.bA n12).rules
            refine wpOp_step rfl (fun K' hK => ?_)
            rw [e0]
            go_simp
            exact hK _ _ ⟨_, bit_set hL hsz 1 (by omega), fun j => if j = 80 then vF else s j, by first | (simp [frU, e0]; done) | (simp [frU, e0]; rfl), by simpa using hsz, ⟨I.v0, fun _ => rfl, I.v2, I.v3, I.v4, I.v5, I.v6, I.v7, I.v8, I.v11, I.x, fun _ => rfl, fun h => ⟨(I.k12 h).1, rfl⟩, I.bA, I.oA, I.nA, I.oB, I.bB⟩⟩
          · -- operation 2
            simp only [Region.binds, listed_bit hL] at hdep
            refine wpOp_step rfl (fun K' hK => ?_)
            go_simp
            exact hK _ _ ⟨_, bit_set hL hsz 2 (by omega), fun j => if j = 81 then .pointer (some ⟨m, 0, none⟩) else s j, by first | (simp [frU]; done) | (simp [frU]; rfl), by simpa using hsz, ⟨I.v0, I.v1, fun _ => rfl, I.v3, I.v4, I.v5, I.v6, I.v7, I.v8, I.v11, I.x, I.k10, I.k12, I.bA, I.oA, I.nA, I.oB, I.bB⟩⟩
          · -- operation 3
            simp only [Region.binds, listed_bit hL] at hdep
            have d2 : L 2 = true := by first | simpa [hL] using hdep | (simp [hL, Region.binds] at hdep; simp [hdep])
            have e2 := I.v2 d2
            refine wpOp_step rfl (fun K' hK => ?_)
            rw [e2]
            go_simp
            exact hK _ _ ⟨_, bit_set hL hsz 3 (by omega), fun j => if j = 82 then .pointer (some ⟨m, 0, none⟩) else s j, by first | (simp [frU, e2]; done) | (simp [frU, e2]; rfl), by simpa using hsz, ⟨I.v0, I.v1, I.v2, fun _ => rfl, I.v4, I.v5, I.v6, I.v7, I.v8, I.v11, I.x, I.k10, I.k12, I.bA, I.oA, I.nA, I.oB, I.bB⟩⟩
          · -- operation 4
            simp only [Region.binds, listed_bit hL] at hdep
            have d3 : L 3 = true := by first | simpa [hL] using hdep | (simp [hL, Region.binds] at hdep; simp [hdep])
            have e3 := I.v3 d3
            refine wpOp_step rfl (fun K' hK => ?_)
            rw [e3]
            go_simp
            exact hK _ _ ⟨_, bit_set hL hsz 4 (by omega), fun j => if j = 83 then .pointer (some ⟨m, 0, none⟩) else s j, by first | (simp [frU, e3]; done) | (simp [frU, e3]; rfl), by simpa using hsz, ⟨I.v0, I.v1, I.v2, I.v3, fun _ => rfl, I.v5, I.v6, I.v7, I.v8, I.v11, I.x, I.k10, I.k12, I.bA, I.oA, I.nA, I.oB, I.bB⟩⟩
          · -- operation 5
            simp only [Region.binds, listed_bit hL] at hdep
            have d4 : L 4 = true := by first | simpa [hL] using hdep | (simp [hL, Region.binds] at hdep; simp [hdep])
            have e4 := I.v4 d4
            refine wpOp_step rfl (fun K' hK => ?_)
            rw [e4]
            go_simp
            exact hK _ _ ⟨_, bit_set hL hsz 5 (by omega), fun j => if j = 84 then .iface 70 (.pointer (some ⟨bt, 0, none⟩)) else s j, by first | (simp [frU, e4]; done) | (simp [frU, e4]; rfl), by simpa using hsz, ⟨I.v0, I.v1, I.v2, I.v3, I.v4, fun _ => rfl, I.v6, I.v7, I.v8, I.v11, I.x, I.k10, I.k12, I.bA, I.oA, I.nA, I.oB, I.bB⟩⟩
          · -- operation 6
            simp only [Region.binds, listed_bit hL] at hdep
            refine wpOp_step rfl (fun K' hK => ?_)
            go_simp
            exact hK _ _ ⟨_, bit_set hL hsz 6 (by omega), fun j => if j = 85 then .int .i64 i else s j, by first | (simp [frU]; done) | (simp [frU]; rfl), by simpa using hsz, ⟨I.v0, I.v1, I.v2, I.v3, I.v4, I.v5, fun _ => rfl, I.v7, I.v8, I.v11, I.x, I.k10, I.k12, I.bA, I.oA, I.nA, I.oB, I.bB⟩⟩
          · -- operation 7
            simp only [Region.binds, listed_bit hL] at hdep
            refine wpOp_step rfl (fun K' hK => ?_)
            go_simp
            exact hK _ _ ⟨_, bit_set hL hsz 7 (by omega), fun j => if j = 86 then .int .i64 jj else s j, by first | (simp [frU]; done) | (simp [frU]; rfl), by simpa using hsz, ⟨I.v0, I.v1, I.v2, I.v3, I.v4, I.v5, I.v6, fun _ => rfl, I.v8, I.v11, I.x, I.k10, I.k12, I.bA, I.oA, I.nA, I.oB, I.bB⟩⟩
          · -- operation 8
            simp only [Region.binds, listed_bit hL] at hdep
            have d5 : L 5 = true := by first | simpa [hL] using hdep | (simp [hL, Region.binds] at hdep; simp [hdep])
            have e5 := I.v5 d5
            have d6 : L 6 = true := by first | simpa [hL] using hdep | (simp [hL, Region.binds] at hdep; simp [hdep])
            have e6 := I.v6 d6
            have d7 : L 7 = true := by first | simpa [hL] using hdep | (simp [hL, Region.binds] at hdep; simp [hdep])
            have e7 := I.v7 d7
            refine wpOp_step rfl (fun K' hK => ?_)
            rw [e5, e6, e7]
            go_simp
            refine (CFL.out _).mono ?_
            rintro e w3 ⟨rfl, x3⟩
            exact hK _ _ ⟨_, bit_set hL hsz 8 (by omega), fun j => if j = 87 then .agg #[.bool v.obj, .int .i64 v.n] else s j, by first | (simp [frU, e5, e6, e7]; done) | (simp [frU, e5, e6, e7]; rfl), by simpa using hsz, ⟨I.v0, I.v1, I.v2, I.v3, I.v4, I.v5, I.v6, I.v7, fun _ => rfl, I.v11, I.x.trans x3, I.k10, I.k12, fun h => (I.bA h).ext x3, fun h => (I.oA h).ext x3, fun h1 h2 => by obtain ⟨gb, y1, y2⟩ := I.nA h1 h2; exact ⟨gb, y1, y2.ext x3⟩, fun h => ⟨(I.oB h).1, (I.oB h).2.ext x3⟩, fun h => (I.bB h).ext x3⟩⟩
          · -- operation 9
            simp only [Region.binds, listed_bit hL] at hdep
            have d8 : L 8 = true := by first | simpa [hL] using hdep | (simp [hL, Region.binds] at hdep; simp [hdep])
            have e8 := I.v8 d8
            refine wpOp_step rfl (fun K' hK => ?_)
            rw [e8]
            go_simp
            exact hK _ _ ⟨_, bit_set hL hsz 9 (by omega), fun j => if j = 88 then .slice (some ⟨W.heap.size, 0, none⟩) 1 1 else s j, by first | (simp [frU, e8]; done) | (simp [frU, e8]; rfl), by simpa using hsz, ⟨I.v0, I.v1, I.v2, I.v3, I.v4, I.v5, I.v6, I.v7, I.v8, I.v11, I.x.alloc _, I.k10, I.k12, fun h => (I.bA h).alloc _, fun h => (I.oA h).ext ((Ext.refl _).alloc _), fun _ _ => ⟨_, rfl, Blk.new _ _ _⟩, fun h => ⟨(I.oB h).1, (I.oB h).2.ext ((Ext.refl _).alloc _)⟩, fun h => (I.bB h).alloc _⟩⟩
          · -- operation 10
            simp only [Region.binds, listed_bit hL] at hdep
            have d1 : L 1 = true := by first | simpa [hL] using hdep | (simp [hL, Region.binds] at hdep; simp [hdep])
            have e1 := I.v1 d1
            have d9 : L 9 = true := by first | simpa [hL] using hdep | (simp [hL, Region.binds] at hdep; simp [hdep])
            have n12 : L 12 = false := by cases hh : L 12 with | false => rfl | true => rw [(I.k12 hh).1] at hn0; cases hn0
            obtain ⟨gb, e9, hgb⟩ := I.nA d9 hn0
            have own := I.oA hn0
            have hB := I.bA n12
            refine wpOp_step rfl (fun K' hK => ?_)
            refine step_append_lies _ (by rfl) _ _ _ (by rfl) w1.heap.size 38 iV (.agg #[.bool false, .int .i64 0]) 2 16 Tryz.underlying40 iV1 iV2 iV3 iV4 rfl (by decide) vF jj (flat jj 2 c) (by exact e1) own ⟨gb, 0, none⟩ 1 1 [.bool v.obj, .int .i64 v.n] (by exact e9) (by rfl) (World.news_of_block hgb) (by simp [Value.oneCell']) (by omega) (by unfold maxLen; omega) (by omega) hfz W.heap.size rfl ?_
            intro gg cc w3 o3 g3 hat hlt3
            have kp : Keep (fun k => vF.ownBlock = some k) W w3 := ⟨g3.os, g3.tape, g3.output, g3.size, fun k hk hn => g3.block k hk (fun e => hn e.symm)⟩
            have x3 : Ext w1 w3 := Ext.of_below (Keep.below I.x.below kp I.x.below.size (fun i hi e => by have := (own.block e).1; omega))
            have b3 := hB.keep kp (fun e => by obtain ⟨_, cs, hq⟩ := own.block e; exact hB.ne hq (by decide) rfl)
            have o4 : Own w3 w1.heap.size 38 (.slice (some ⟨gg, 0, none⟩) (jj + 1) cc) (jj + 1) 2 c := by
              show w3.ownsRow _ _ _ _ _ _
              rw [flat_succ, hcj]; exact o3
            exact hK _ _ ⟨_, bit_set hL hsz 10 (by omega), fun j => if j = 89 then .slice (some ⟨gg, 0, none⟩) (jj + 1) cc else s j, by first | (simp [frU]; done) | (simp [frU]; rfl), by simpa using hsz, ⟨I.v0, I.v1, I.v2, I.v3, I.v4, I.v5, I.v6, I.v7, I.v8, I.v11, x3, fun _ => d1, fun h => absurd (show L 12 = true from h) (by rw [n12]; decide), fun _ => b3, fun h => absurd h (by simp), fun _ h => absurd h (by simp), fun _ => ⟨⟨gg, cc, rfl⟩, o4⟩, fun h => absurd (show L 12 = true from h) (by rw [n12]; decide)⟩⟩
          · -- operation 11
            simp only [Region.binds, listed_bit hL] at hdep
            refine wpOp_step rfl (fun K' hK => ?_)
            go_simp
            exact hK _ _ ⟨_, bit_set hL hsz 11 (by omega), fun j => if j = 90 then .pointer (some ⟨g, 4, none⟩) else s j, by first | (simp [frU]; done) | (simp [frU]; rfl), by simpa using hsz, ⟨I.v0, I.v1, I.v2, I.v3, I.v4, I.v5, I.v6, I.v7, I.v8, fun _ => rfl, I.x, I.k10, I.k12, I.bA, I.oA, I.nA, I.oB, I.bB⟩⟩
          · -- operation 12
            simp only [Region.binds, listed_bit hL] at hdep
            have d10 : L 10 = true := by first | simpa [hL] using hdep | (simp [hL, Region.binds] at hdep; simp [hdep])
            have d11 : L 11 = true := by first | simpa [hL] using hdep | (simp [hL, Region.binds] at hdep; simp [hdep])
            have e11 := I.v11 d11
            obtain ⟨⟨gg, cc, e10⟩, own⟩ := I.oB d10
            have hB := I.bA hn0
            obtain ⟨q1, q2, q3⟩ := hB.rules
            refine wpOp_step rfl (fun K' hK => ?_)
            rw [e11, e10]
            have IX := Lib.hid I
            have HB := Lib.hid hB
            have OW := Lib.hid own
            clear I hB own
            go_simp
            exact hK _ _ ⟨_, bit_set hL hsz 12 (by omega), s, by first | (simp [frU, e11, e10]; done) | (simp [frU, e11, e10]; rfl), by simpa using hsz, ⟨IX.out.v0, IX.out.v1, IX.out.v2, IX.out.v3, IX.out.v4, IX.out.v5, IX.out.v6, IX.out.v7, IX.out.v8, IX.out.v11, IX.out.x.setNew (p := ⟨g, 4, none⟩) hg _, IX.out.k10, fun _ => ⟨d10, IX.out.k10 d10⟩, fun h => absurd h (by simp), fun h => absurd (show L 10 = false from h) (by rw [d10]; decide), fun _ h => absurd (show L 10 = false from h) (by rw [d10]; decide), fun _ => ⟨⟨gg, cc, e10⟩, OW.out.kt1 HB.out ((Keep.refl (· = g) W).setCell (p := ⟨g, 4, none⟩) rfl _) (by decide)⟩, fun _ => by rw [e10]; exact HB.out.set 4 _⟩⟩
        · rintro listed a W ⟨L, hL, s, rfl, hsz, I⟩ hr
          have ALL : ∀ i, i < 13 → L i = true := fun i hi => by rw [← hL i]; exact all_listed_m (by kernel_rfl) hsz hr i hi
          have bN := I.bB (ALL 12 (by omega))
          obtain ⟨⟨gg, cc, e10⟩, oN⟩ := I.oB (ALL 10 (by omega))
          rw [e10] at bN oN
          have xN := I.x
          clear I hL ALL hr hsz
          unfold frU
          dsimp only
          rw [← HU.out]
          clear HU
          simp only [Array.getD_eq_getD_getElem?, List.getElem?_toArray, List.getElem?_cons_succ, List.getElem?_cons_zero, Option.getD_some]
          subst hcc
          go_wp2_with fail
          go_roundw
          case rel => exact ⟨jj + 1, by omega, by go_num, xN, _, bN, oN⟩
          case measure => simp [intOf]; omega
      · obtain rfl : jj = tF.length := by omega
        obtain ⟨r1, r2, r3⟩ := bg.rules
        have br := BR.out.ext xr
        obtain ⟨t1, t2, t3⟩ := br.rules
        have ne1 : g ≠ w.heap.size := by omega
        have ne2 : w.heap.size ≠ g := by omega
        obtain ⟨A0, cp0, hA0⟩ := of.form
        have hA0 : vF = .slice A0 tF.length cp0 := hA0
        subst hA0
        clear bg of br CB BG
        go_wp2_with fail
        refine bodyPost_ret (v := .agg #[.int .i64 tc, .int .i64 tf, .int .i64 th, .bool tn, .slice A0 tF.length cp0, .string ByteArray.empty]) (by simp [results, Tryz.results13, go_sem, t1]) rfl ?_
        have x0 : Ext w wr := i1.out.trans XR.out
        have xe := ((((((x0.setNew (p := ⟨w.heap.size, 0, none⟩) (Nat.le_refl _) (.int .i64 tc)).setNew (p := ⟨w.heap.size, 1, none⟩) (Nat.le_refl _) (.int .i64 tf)).setNew (p := ⟨w.heap.size, 2, none⟩) (Nat.le_refl _) (.int .i64 th)).setNew (p := ⟨w.heap.size, 3, none⟩) (Nat.le_refl _) (.bool tn)).setNew (p := ⟨w.heap.size, 4, none⟩) (Nat.le_refl _) (.slice A0 tF.length cp0)).setNew (p := ⟨w.heap.size, 5, none⟩) (Nat.le_refl _) (.string ByteArray.empty))
        refine ⟨_, rfl, ?_, xe⟩
        have br := BR.out.ext XR.out
        have k6 : Keep (· = w.heap.size) wr ((((((wr.setCell ⟨w.heap.size, 0, none⟩ (.int .i64 tc)).setCell ⟨w.heap.size, 1, none⟩ (.int .i64 tf)).setCell ⟨w.heap.size, 2, none⟩ (.int .i64 th)).setCell ⟨w.heap.size, 3, none⟩ (.bool tn)).setCell ⟨w.heap.size, 4, none⟩ (.slice A0 tF.length cp0)).setCell ⟨w.heap.size, 5, none⟩ (.string ByteArray.empty)) := ((((((Keep.refl (· = w.heap.size) wr).setCell (p := ⟨w.heap.size, 0, none⟩) rfl _).setCell (p := ⟨w.heap.size, 1, none⟩) rfl _).setCell (p := ⟨w.heap.size, 2, none⟩) rfl _).setCell (p := ⟨w.heap.size, 3, none⟩) rfl _).setCell (p := ⟨w.heap.size, 4, none⟩) rfl _).setCell (p := ⟨w.heap.size, 5, none⟩) rfl _
        exact (OF.out.kt1 br k6 (by decide)).base (by omega)
end
end Go.Proofs.YtjpalcejmloocaaGreat.World
