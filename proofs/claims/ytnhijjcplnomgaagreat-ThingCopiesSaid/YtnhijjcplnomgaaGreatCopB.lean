/-
  ThingF, SameT, Twin, ThingNews0, Copies0, as one text (a claim has at most 60 files).
-/
import Derived.Test.YtnhijjcplnomgaaGreatThing
import Derived.Deep.AppendLies
import Derived.Test.YtnhijjcplnomgaaGreatPrimBytes
import Derived.WalkMore
import Derived.Test.YtnhijjcplnomgaaGreatPrimOp
import Derived.Test.YtnhijjcplnomgaaGreatSetup
namespace Go.Proofs.YtnhijjcplnomgaaGreat.World
open Go.RowKit Go.Proofs.YtnhijjcplnomgaaGreat.Plain
set_option linter.unusedVariables false
attribute [local go_sem ↓] Go.wp_at_zero Go.wp_at_succ
/-! ### the region of memory.Thing's fields -/
structure TF (w1 : World) (m bt g : Nat) (i tc tf th : Int) (tn : Bool) (vF : Value) (v : PV) (jj : Nat) (c : Nat → Nat → Value) (L : Nat → Bool) (s : Nat → Value) (W : World) : Prop where
  v0 : L 0 = true → s 79 = .pointer (some ⟨g, 4, none⟩)
  v1 : L 1 = true → s 80 = vF
  v2 : L 2 = true → s 81 = .pointer (some ⟨m, 0, none⟩)
  v3 : L 3 = true → s 82 = .pointer (some ⟨m, 0, none⟩)
  v4 : L 4 = true → s 83 = .pointer (some ⟨m, 0, none⟩)
  v5 : L 5 = true → s 84 = .iface 88 (.pointer (some ⟨bt, 0, none⟩))
  v6 : L 6 = true → s 85 = .int .i64 i
  v7 : L 7 = true → s 86 = .int .i64 jj
  v8 : L 8 = true → s 87 = .agg #[.bool v.obj, .int .i64 v.n]
  v11 : L 11 = true → s 90 = .pointer (some ⟨g, 4, none⟩)
  x : Ext w1 W
  k10 : L 10 = true → L 1 = true
  k12 : L 12 = true → L 10 = true ∧ L 1 = true
  bA : L 12 = false → Blk W g 62 #[.int .i64 tc, .int .i64 tf, .int .i64 th, .bool tn, vF, .string ByteArray.empty]
  oA : L 10 = false → Own W w1.heap.size 40 vF jj 2 c
  nA : L 9 = true → L 10 = false → ∃ gb, s 88 = .slice (some ⟨gb, 0, none⟩) 1 1 ∧ Blk W gb 40 #[.bool v.obj, .int .i64 v.n]
  oB : L 10 = true → (∃ gg cc, s 89 = .slice (some ⟨gg, 0, none⟩) (jj + 1) cc) ∧ Own W w1.heap.size 40 (s 89) (jj + 1) 2 c
  bB : L 12 = true → Blk W g 62 #[.int .i64 tc, .int .i64 tf, .int .i64 th, .bool tn, (s 89), .string ByteArray.empty]
def frU (m g4 g jj : Nat) (i : Int) (u s : Nat → Value) : Act := { tmps := #[.pointer (some ⟨m, 0, none⟩), .int .i64 i, u 2, u 3, .pointer (some ⟨g4, 0, none⟩), .pointer (some ⟨g, 0, none⟩), u 6, u 7, u 8, .int .i64 jj, u 10, u 11, u 12, u 13, u 14, u 15, u 16, u 17, u 18, u 19, u 20, u 21, u 22, u 23, u 24, u 25, u 26, u 27, u 28, u 29, u 30, u 31, u 32, u 33, u 34, u 35, u 36, u 37, u 38, u 39, u 40, u 41, u 42, u 43, u 44, u 45, u 46, u 47, u 48, u 49, u 50, u 51, u 52, u 53, u 54, u 55, u 56, u 57, u 58, u 59, u 60, u 61, u 62, u 63, u 64, u 65, u 66, u 67, u 68, u 69, u 70, u 71, u 72, u 73, u 74, u 75, .int .i64 jj, u 77, u 78, s 79, s 80, s 81, s 82, s 83, s 84, s 85, s 86, s 87, s 88, s 89, s 90, u 91, u 92], defers := [] }
def TFInv (w1 : World) (m bt g : Nat) (i tc tf th : Int) (tn : Bool) (vF : Value) (v : PV) (jj : Nat) (c : Nat → Nat → Value) (g4 : Nat) (u : Nat → Value) (listed : Array Bool) (a : Act) (W : World) : Prop :=
  ∃ L : Nat → Bool, (∀ k, listed.getD k false = L k) ∧ ∃ s : Nat → Value, a = frU m g4 g jj i u s ∧ listed.size = 13 ∧ TF w1 m bt g i tc tf th tn vF v jj c L s W
section
variable {w w' w2 : World} {F F' F2 : Nat → Prop} {m : Nat} {S S' : MS} {X : MX}
set_option maxRecDepth 100000 in
set_option maxHeartbeats 1000000 in
/-- a copy of a thing with fields -/
theorem mthingF (h : M w F m S) (i : Int) (hi : S.has i = true) (hf : S.fmt i ≠ 3) : Calls Tryz.prog 26 #[.pointer (some ⟨m, 0, none⟩), .int .i64 i] w fun e w' => ∃ vF, e = .returned (.agg (tcells (S.t i) vF ByteArray.empty)) ∧ Own w' w.heap.size 40 vF (S.t i).F.length 2 (cF (S.t i).F) ∧ Ext w w' := by
  have hi2 := MS.has_lt hi
  have hlen := h.wf.len
  have hlast := h.wf.last
  have hnB := h.wf.nF i.toNat (by omega)
  have hnF := h.wf.noB i.toNat (by omega)
  obtain ⟨X, hX⟩ := h
  obtain ⟨z1, _, ltm⟩ := hX.bm.rules
  have c0 : w.cell? ⟨m, 0, none⟩ = some (.iface 88 (.pointer (some ⟨X.bt, 0, none⟩))) := z1 0
  have C0 := Lib.hid c0
  have wf := hX.wf
  have CH := Lib.hid (fun W [x : IsExt w W] => hi ▸ thas (hX.ext x.out).ts wf i)
  have CC := Lib.hid (fun W [x : IsExt w W] => tclass (hX.ext x.out).ts wf i)
  have CF := Lib.hid (fun W [x : IsExt w W] => tfmt (hX.ext x.out).ts wf i)
  have CA := Lib.hid (fun W [x : IsExt w W] => thash (hX.ext x.out).ts wf i)
  have CL := Lib.hid (fun W [x : IsExt w W] => tfinal (hX.ext x.out).ts wf i)
  have CS := Lib.hid (fun W [x : IsExt w W] => tsize (hX.ext x.out).ts wf i)
  have CB : Hid (∀ (l : Nat), l < (S.t i).F.length → Hid (∀ W [x : IsExt w W], Calls Tryz.prog 178 #[.pointer (some ⟨X.bt, 0, none⟩), .int .i64 i, .int .i64 l] W fun e w' => e = .returned (val (vAt (S.t i).F l)) ∧ Ext W w')) := Lib.hid (fun l hl => Lib.hid (fun W x => by
    obtain ⟨k, rfl⟩ := Int.eq_ofNat_of_zero_le hi2.1
    have hq : (tAt S.L k).F.length ≤ 60 := (by have := hnB; rw [Int.toNat_natCast] at this; exact this)
    exact tfield (hX.ext x.out).ts k l (by omega) hl (by omega) (by omega)))
  have e1 : S.cls i = (S.t i).cls := by unfold MS.cls; rw [if_pos hi]
  have e2 : S.hash i = (S.t i).hash := by unfold MS.hash; rw [if_pos hi]
  have e3 : S.final i = (S.t i).fin := by unfold MS.final; rw [hi]; rfl
  have e4 : S.fmt i = (S.t i).fmt := by unfold MS.fmt; rw [if_pos hi]
  have e5 : S.size i = ((S.t i).F.length : Int) := by
    have hF : (S.t i).B.size = 0 := hnF (e4 ▸ hf)
    unfold MS.size; rw [if_pos hi, hF]; simp
  rw [e1] at CC
  rw [e4] at CF hf
  rw [e2] at CA
  rw [e3] at CL
  rw [e5] at CS
  clear hX z1 wf e1 e2 e3 e4 e5 hnF
  have hB : (S.t i).F.length ≤ 60 := hnB
  generalize S.t i = t at *
  obtain ⟨tc, tf, th, tn, tF, tB⟩ := t
  simp only at hf hB CC CF CA CL CS CB
  have hf3 : (tf == 3) = false := beq_eq_false_iff_ne.2 hf
  generalize X.bt = bt at *
  clear hnB
  go_enter Tryz.func26, Tryz.ntmps26
  go_wp2_with fail
  refine (CH.out _).mono ?_
  rintro e w1 ⟨rfl, x1⟩
  have i1 : IsExt w w1 := ⟨(is_ext w _).trans x1⟩
  have BR := Lib.hid ((Blk.new w 62 #[.int .i64 0, .int .i64 0, .int .i64 0, .bool false, .slice none 0 0, .string ByteArray.empty]).ext x1)
  clear x1 CH c0
  have c1 := (i1.out.below.cell (p := ⟨m, 0, none⟩) ltm).trans C0.out
  have l1 := Nat.lt_of_lt_of_le ltm i1.out.below.size
  go_upto_region 3 with (fail)
  have hm1 := c1
  have ltm1 := l1
  clear c1 l1
  refine wp_any_act (fun A hA => ?_)
  have eA : A = frT m w.heap.size i (fun q => A.tmps.getD q undef) (fun q => A.tmps.getD q undef) := by rw [hA]; rfl
  clear hA
  generalize (fun q => A.tmps.getD q undef) = u at eA
  subst eA
  refine wp_region_inv (Inv := TInv w1 m bt i tc tf th tn w.heap.size u) (by kernel_rfl) ?_ ?_ ?_
  · refine ⟨fun _ => false, fun k => ?_, u, rfl, by simp, ⟨?_, ?_, ?_, ?_, ?_, ?_, ?_, ?_, ?_, ?_, ?_, ?_, ?_, ?_, ?_, ?_, ?_, ?_, ?_, ?_, ?_, ?_, ?_, ?_, ?_, ?_, ?_, ?_, ?_⟩⟩
    · rw [Array.getD_eq_getD_getElem?, Array.getElem?_replicate]; split <;> rfl
    all_goals first | exact is_ext w1 _ | (intro h; exact absurd h (by decide))
  · rintro listed a W ii ⟨L, hL, s, rfl, hsz, I⟩ hi
    obtain ⟨hlt, hnot, hdep⟩ := (ready_iff _ _).1 hi
    have hi27 : ii < 27 := hlt
    have cases27 : ii = 0 ∨ ii = 1 ∨ ii = 2 ∨ ii = 3 ∨ ii = 4 ∨ ii = 5 ∨ ii = 6 ∨ ii = 7 ∨ ii = 8 ∨ ii = 9 ∨ ii = 10 ∨ ii = 11 ∨ ii = 12 ∨ ii = 13 ∨ ii = 14 ∨ ii = 15 ∨ ii = 16 ∨ ii = 17 ∨ ii = 18 ∨ ii = 19 ∨ ii = 20 ∨ ii = 21 ∨ ii = 22 ∨ ii = 23 ∨ ii = 24 ∨ ii = 25 ∨ ii = 26 := by omega
    have hn0 : L ii = false := by rw [← hL ii]; exact not_bit hnot
    clear hi hlt hi27 hnot
    have iW : IsExt w1 W := ⟨I.x⟩
    have jW : IsExt w W := ⟨i1.out.trans I.x⟩
    have hc := (I.x.below.cell (p := ⟨m, 0, none⟩) ltm1).trans hm1
    have hfz := I.x.below.size
    unfold frT
    rcases cases27 with rfl | rfl | rfl | rfl | rfl | rfl | rfl | rfl | rfl | rfl | rfl | rfl | rfl | rfl | rfl | rfl | rfl | rfl | rfl | rfl | rfl | rfl | rfl | rfl | rfl | rfl | rfl
    · -- operation 0
      simp only [Region.binds, listed_bit hL] at hdep
      refine wpOp_step rfl (fun K' hK => ?_)
      go_simp
      exact hK _ _ ⟨_, bit_set hL hsz 0 (by omega), fun j => if j = 18 then .pointer (some ⟨m, 0, none⟩) else s j, by first | (simp [frT]; done) | (simp [frT]; rfl), by simpa using hsz, ⟨fun _ => rfl, I.v1, I.v2, I.v3, I.v4, I.v5, I.v6, I.v7, I.v8, I.v9, I.v10, I.v11, I.v12, I.v13, I.v14, I.v15, I.v16, I.v17, I.v18, I.v19, I.v20, I.v21, I.v22, I.v23, I.v24, I.x, I.k26, I.za, I.zb⟩⟩
    · -- operation 1
      simp only [Region.binds, listed_bit hL] at hdep
      have d0 : L 0 = true := by first | simpa [hL] using hdep | (simp [hL, Region.binds] at hdep; simp [hdep])
      have e0 := I.v0 d0
      refine wpOp_step rfl (fun K' hK => ?_)
      rw [e0]
      go_simp
      exact hK _ _ ⟨_, bit_set hL hsz 1 (by omega), fun j => if j = 19 then .pointer (some ⟨m, 0, none⟩) else s j, by first | (simp [frT, e0]; done) | (simp [frT, e0]; rfl), by simpa using hsz, ⟨I.v0, fun _ => rfl, I.v2, I.v3, I.v4, I.v5, I.v6, I.v7, I.v8, I.v9, I.v10, I.v11, I.v12, I.v13, I.v14, I.v15, I.v16, I.v17, I.v18, I.v19, I.v20, I.v21, I.v22, I.v23, I.v24, I.x, I.k26, I.za, I.zb⟩⟩
    · -- operation 2
      simp only [Region.binds, listed_bit hL] at hdep
      have d1 : L 1 = true := by first | simpa [hL] using hdep | (simp [hL, Region.binds] at hdep; simp [hdep])
      have e1 := I.v1 d1
      refine wpOp_step rfl (fun K' hK => ?_)
      rw [e1]
      go_simp
      exact hK _ _ ⟨_, bit_set hL hsz 2 (by omega), fun j => if j = 20 then .pointer (some ⟨m, 0, none⟩) else s j, by first | (simp [frT, e1]; done) | (simp [frT, e1]; rfl), by simpa using hsz, ⟨I.v0, I.v1, fun _ => rfl, I.v3, I.v4, I.v5, I.v6, I.v7, I.v8, I.v9, I.v10, I.v11, I.v12, I.v13, I.v14, I.v15, I.v16, I.v17, I.v18, I.v19, I.v20, I.v21, I.v22, I.v23, I.v24, I.x, I.k26, I.za, I.zb⟩⟩
    · -- operation 3
      simp only [Region.binds, listed_bit hL] at hdep
      have d2 : L 2 = true := by first | simpa [hL] using hdep | (simp [hL, Region.binds] at hdep; simp [hdep])
      have e2 := I.v2 d2
      refine wpOp_step rfl (fun K' hK => ?_)
      rw [e2]
      go_simp
      exact hK _ _ ⟨_, bit_set hL hsz 3 (by omega), fun j => if j = 21 then .iface 88 (.pointer (some ⟨bt, 0, none⟩)) else s j, by first | (simp [frT, e2]; done) | (simp [frT, e2]; rfl), by simpa using hsz, ⟨I.v0, I.v1, I.v2, fun _ => rfl, I.v4, I.v5, I.v6, I.v7, I.v8, I.v9, I.v10, I.v11, I.v12, I.v13, I.v14, I.v15, I.v16, I.v17, I.v18, I.v19, I.v20, I.v21, I.v22, I.v23, I.v24, I.x, I.k26, I.za, I.zb⟩⟩
    · -- operation 4
      simp only [Region.binds, listed_bit hL] at hdep
      refine wpOp_step rfl (fun K' hK => ?_)
      go_simp
      exact hK _ _ ⟨_, bit_set hL hsz 4 (by omega), fun j => if j = 22 then .int .i64 i else s j, by first | (simp [frT]; done) | (simp [frT]; rfl), by simpa using hsz, ⟨I.v0, I.v1, I.v2, I.v3, fun _ => rfl, I.v5, I.v6, I.v7, I.v8, I.v9, I.v10, I.v11, I.v12, I.v13, I.v14, I.v15, I.v16, I.v17, I.v18, I.v19, I.v20, I.v21, I.v22, I.v23, I.v24, I.x, I.k26, I.za, I.zb⟩⟩
    · -- operation 5
      simp only [Region.binds, listed_bit hL] at hdep
      have d3 : L 3 = true := by first | simpa [hL] using hdep | (simp [hL, Region.binds] at hdep; simp [hdep])
      have e3 := I.v3 d3
      have d4 : L 4 = true := by first | simpa [hL] using hdep | (simp [hL, Region.binds] at hdep; simp [hdep])
      have e4 := I.v4 d4
      refine wpOp_step rfl (fun K' hK => ?_)
      rw [e3, e4]
      go_simp
      refine (CC.out _).mono ?_
      rintro e w3 ⟨rfl, x3⟩
      exact hK _ _ ⟨_, bit_set hL hsz 5 (by omega), fun j => if j = 23 then .int .i64 tc else s j, by first | (simp [frT, e3, e4]; done) | (simp [frT, e3, e4]; rfl), by simpa using hsz, ⟨I.v0, I.v1, I.v2, I.v3, I.v4, fun _ => rfl, I.v6, I.v7, I.v8, I.v9, I.v10, I.v11, I.v12, I.v13, I.v14, I.v15, I.v16, I.v17, I.v18, I.v19, I.v20, I.v21, I.v22, I.v23, I.v24, I.x.trans x3, I.k26, fun h1 h2 => by obtain ⟨g, y1, y2, y3⟩ := I.za h1 h2; exact ⟨g, y1, y2, y3.ext x3⟩, fun h1 => by obtain ⟨g, y1, y2, y3⟩ := I.zb h1; exact ⟨g, y1, y2, y3.ext x3⟩⟩⟩
    · -- operation 6
      simp only [Region.binds, listed_bit hL] at hdep
      refine wpOp_step rfl (fun K' hK => ?_)
      go_simp
      exact hK _ _ ⟨_, bit_set hL hsz 6 (by omega), fun j => if j = 24 then .pointer (some ⟨m, 0, none⟩) else s j, by first | (simp [frT]; done) | (simp [frT]; rfl), by simpa using hsz, ⟨I.v0, I.v1, I.v2, I.v3, I.v4, I.v5, fun _ => rfl, I.v7, I.v8, I.v9, I.v10, I.v11, I.v12, I.v13, I.v14, I.v15, I.v16, I.v17, I.v18, I.v19, I.v20, I.v21, I.v22, I.v23, I.v24, I.x, I.k26, I.za, I.zb⟩⟩
    · -- operation 7
      simp only [Region.binds, listed_bit hL] at hdep
      have d6 : L 6 = true := by first | simpa [hL] using hdep | (simp [hL, Region.binds] at hdep; simp [hdep])
      have e6 := I.v6 d6
      refine wpOp_step rfl (fun K' hK => ?_)
      rw [e6]
      go_simp
      exact hK _ _ ⟨_, bit_set hL hsz 7 (by omega), fun j => if j = 25 then .pointer (some ⟨m, 0, none⟩) else s j, by first | (simp [frT, e6]; done) | (simp [frT, e6]; rfl), by simpa using hsz, ⟨I.v0, I.v1, I.v2, I.v3, I.v4, I.v5, I.v6, fun _ => rfl, I.v8, I.v9, I.v10, I.v11, I.v12, I.v13, I.v14, I.v15, I.v16, I.v17, I.v18, I.v19, I.v20, I.v21, I.v22, I.v23, I.v24, I.x, I.k26, I.za, I.zb⟩⟩
    · -- operation 8
      simp only [Region.binds, listed_bit hL] at hdep
      have d7 : L 7 = true := by first | simpa [hL] using hdep | (simp [hL, Region.binds] at hdep; simp [hdep])
      have e7 := I.v7 d7
      refine wpOp_step rfl (fun K' hK => ?_)
      rw [e7]
      go_simp
      exact hK _ _ ⟨_, bit_set hL hsz 8 (by omega), fun j => if j = 26 then .pointer (some ⟨m, 0, none⟩) else s j, by first | (simp [frT, e7]; done) | (simp [frT, e7]; rfl), by simpa using hsz, ⟨I.v0, I.v1, I.v2, I.v3, I.v4, I.v5, I.v6, I.v7, fun _ => rfl, I.v9, I.v10, I.v11, I.v12, I.v13, I.v14, I.v15, I.v16, I.v17, I.v18, I.v19, I.v20, I.v21, I.v22, I.v23, I.v24, I.x, I.k26, I.za, I.zb⟩⟩
    · -- operation 9
      simp only [Region.binds, listed_bit hL] at hdep
      have d8 : L 8 = true := by first | simpa [hL] using hdep | (simp [hL, Region.binds] at hdep; simp [hdep])
      have e8 := I.v8 d8
      refine wpOp_step rfl (fun K' hK => ?_)
      rw [e8]
      go_simp
      exact hK _ _ ⟨_, bit_set hL hsz 9 (by omega), fun j => if j = 27 then .iface 88 (.pointer (some ⟨bt, 0, none⟩)) else s j, by first | (simp [frT, e8]; done) | (simp [frT, e8]; rfl), by simpa using hsz, ⟨I.v0, I.v1, I.v2, I.v3, I.v4, I.v5, I.v6, I.v7, I.v8, fun _ => rfl, I.v10, I.v11, I.v12, I.v13, I.v14, I.v15, I.v16, I.v17, I.v18, I.v19, I.v20, I.v21, I.v22, I.v23, I.v24, I.x, I.k26, I.za, I.zb⟩⟩
    · -- operation 10
      simp only [Region.binds, listed_bit hL] at hdep
      refine wpOp_step rfl (fun K' hK => ?_)
      go_simp
      exact hK _ _ ⟨_, bit_set hL hsz 10 (by omega), fun j => if j = 28 then .int .i64 i else s j, by first | (simp [frT]; done) | (simp [frT]; rfl), by simpa using hsz, ⟨I.v0, I.v1, I.v2, I.v3, I.v4, I.v5, I.v6, I.v7, I.v8, I.v9, fun _ => rfl, I.v11, I.v12, I.v13, I.v14, I.v15, I.v16, I.v17, I.v18, I.v19, I.v20, I.v21, I.v22, I.v23, I.v24, I.x, I.k26, I.za, I.zb⟩⟩
    · -- operation 11
      simp only [Region.binds, listed_bit hL] at hdep
      have d9 : L 9 = true := by first | simpa [hL] using hdep | (simp [hL, Region.binds] at hdep; simp [hdep])
      have e9 := I.v9 d9
      have d10 : L 10 = true := by first | simpa [hL] using hdep | (simp [hL, Region.binds] at hdep; simp [hdep])
      have e10 := I.v10 d10
      refine wpOp_step rfl (fun K' hK => ?_)
      rw [e9, e10]
      go_simp
      refine (CF.out _).mono ?_
      rintro e w3 ⟨rfl, x3⟩
      exact hK _ _ ⟨_, bit_set hL hsz 11 (by omega), fun j => if j = 29 then .int .i64 tf else s j, by first | (simp [frT, e9, e10]; done) | (simp [frT, e9, e10]; rfl), by simpa using hsz, ⟨I.v0, I.v1, I.v2, I.v3, I.v4, I.v5, I.v6, I.v7, I.v8, I.v9, I.v10, fun _ => rfl, I.v12, I.v13, I.v14, I.v15, I.v16, I.v17, I.v18, I.v19, I.v20, I.v21, I.v22, I.v23, I.v24, I.x.trans x3, I.k26, fun h1 h2 => by obtain ⟨g, y1, y2, y3⟩ := I.za h1 h2; exact ⟨g, y1, y2, y3.ext x3⟩, fun h1 => by obtain ⟨g, y1, y2, y3⟩ := I.zb h1; exact ⟨g, y1, y2, y3.ext x3⟩⟩⟩
    · -- operation 12
      simp only [Region.binds, listed_bit hL] at hdep
      refine wpOp_step rfl (fun K' hK => ?_)
      go_simp
      exact hK _ _ ⟨_, bit_set hL hsz 12 (by omega), fun j => if j = 30 then .pointer (some ⟨m, 0, none⟩) else s j, by first | (simp [frT]; done) | (simp [frT]; rfl), by simpa using hsz, ⟨I.v0, I.v1, I.v2, I.v3, I.v4, I.v5, I.v6, I.v7, I.v8, I.v9, I.v10, I.v11, fun _ => rfl, I.v13, I.v14, I.v15, I.v16, I.v17, I.v18, I.v19, I.v20, I.v21, I.v22, I.v23, I.v24, I.x, I.k26, I.za, I.zb⟩⟩
    · -- operation 13
      simp only [Region.binds, listed_bit hL] at hdep
      have d12 : L 12 = true := by first | simpa [hL] using hdep | (simp [hL, Region.binds] at hdep; simp [hdep])
      have e12 := I.v12 d12
      refine wpOp_step rfl (fun K' hK => ?_)
      rw [e12]
      go_simp
      exact hK _ _ ⟨_, bit_set hL hsz 13 (by omega), fun j => if j = 31 then .pointer (some ⟨m, 0, none⟩) else s j, by first | (simp [frT, e12]; done) | (simp [frT, e12]; rfl), by simpa using hsz, ⟨I.v0, I.v1, I.v2, I.v3, I.v4, I.v5, I.v6, I.v7, I.v8, I.v9, I.v10, I.v11, I.v12, fun _ => rfl, I.v14, I.v15, I.v16, I.v17, I.v18, I.v19, I.v20, I.v21, I.v22, I.v23, I.v24, I.x, I.k26, I.za, I.zb⟩⟩
    · -- operation 14
      simp only [Region.binds, listed_bit hL] at hdep
      have d13 : L 13 = true := by first | simpa [hL] using hdep | (simp [hL, Region.binds] at hdep; simp [hdep])
      have e13 := I.v13 d13
      refine wpOp_step rfl (fun K' hK => ?_)
      rw [e13]
      go_simp
      exact hK _ _ ⟨_, bit_set hL hsz 14 (by omega), fun j => if j = 32 then .pointer (some ⟨m, 0, none⟩) else s j, by first | (simp [frT, e13]; done) | (simp [frT, e13]; rfl), by simpa using hsz, ⟨I.v0, I.v1, I.v2, I.v3, I.v4, I.v5, I.v6, I.v7, I.v8, I.v9, I.v10, I.v11, I.v12, I.v13, fun _ => rfl, I.v15, I.v16, I.v17, I.v18, I.v19, I.v20, I.v21, I.v22, I.v23, I.v24, I.x, I.k26, I.za, I.zb⟩⟩
    · -- operation 15
      simp only [Region.binds, listed_bit hL] at hdep
      have d14 : L 14 = true := by first | simpa [hL] using hdep | (simp [hL, Region.binds] at hdep; simp [hdep])
      have e14 := I.v14 d14
      refine wpOp_step rfl (fun K' hK => ?_)
      rw [e14]
      go_simp
      exact hK _ _ ⟨_, bit_set hL hsz 15 (by omega), fun j => if j = 33 then .iface 88 (.pointer (some ⟨bt, 0, none⟩)) else s j, by first | (simp [frT, e14]; done) | (simp [frT, e14]; rfl), by simpa using hsz, ⟨I.v0, I.v1, I.v2, I.v3, I.v4, I.v5, I.v6, I.v7, I.v8, I.v9, I.v10, I.v11, I.v12, I.v13, I.v14, fun _ => rfl, I.v16, I.v17, I.v18, I.v19, I.v20, I.v21, I.v22, I.v23, I.v24, I.x, I.k26, I.za, I.zb⟩⟩
    · -- operation 16
      simp only [Region.binds, listed_bit hL] at hdep
      refine wpOp_step rfl (fun K' hK => ?_)
      go_simp
      exact hK _ _ ⟨_, bit_set hL hsz 16 (by omega), fun j => if j = 34 then .int .i64 i else s j, by first | (simp [frT]; done) | (simp [frT]; rfl), by simpa using hsz, ⟨I.v0, I.v1, I.v2, I.v3, I.v4, I.v5, I.v6, I.v7, I.v8, I.v9, I.v10, I.v11, I.v12, I.v13, I.v14, I.v15, fun _ => rfl, I.v17, I.v18, I.v19, I.v20, I.v21, I.v22, I.v23, I.v24, I.x, I.k26, I.za, I.zb⟩⟩
    · -- operation 17
      simp only [Region.binds, listed_bit hL] at hdep
      have d15 : L 15 = true := by first | simpa [hL] using hdep | (simp [hL, Region.binds] at hdep; simp [hdep])
      have e15 := I.v15 d15
      have d16 : L 16 = true := by first | simpa [hL] using hdep | (simp [hL, Region.binds] at hdep; simp [hdep])
      have e16 := I.v16 d16
      refine wpOp_step rfl (fun K' hK => ?_)
      rw [e15, e16]
      go_simp
      refine (CA.out _).mono ?_
      rintro e w3 ⟨rfl, x3⟩
      exact hK _ _ ⟨_, bit_set hL hsz 17 (by omega), fun j => if j = 35 then .int .i64 th else s j, by first | (simp [frT, e15, e16]; done) | (simp [frT, e15, e16]; rfl), by simpa using hsz, ⟨I.v0, I.v1, I.v2, I.v3, I.v4, I.v5, I.v6, I.v7, I.v8, I.v9, I.v10, I.v11, I.v12, I.v13, I.v14, I.v15, I.v16, fun _ => rfl, I.v18, I.v19, I.v20, I.v21, I.v22, I.v23, I.v24, I.x.trans x3, I.k26, fun h1 h2 => by obtain ⟨g, y1, y2, y3⟩ := I.za h1 h2; exact ⟨g, y1, y2, y3.ext x3⟩, fun h1 => by obtain ⟨g, y1, y2, y3⟩ := I.zb h1; exact ⟨g, y1, y2, y3.ext x3⟩⟩⟩
    · -- operation 18
      simp only [Region.binds, listed_bit hL] at hdep
      refine wpOp_step rfl (fun K' hK => ?_)
      go_simp
      exact hK _ _ ⟨_, bit_set hL hsz 18 (by omega), fun j => if j = 36 then .pointer (some ⟨m, 0, none⟩) else s j, by first | (simp [frT]; done) | (simp [frT]; rfl), by simpa using hsz, ⟨I.v0, I.v1, I.v2, I.v3, I.v4, I.v5, I.v6, I.v7, I.v8, I.v9, I.v10, I.v11, I.v12, I.v13, I.v14, I.v15, I.v16, I.v17, fun _ => rfl, I.v19, I.v20, I.v21, I.v22, I.v23, I.v24, I.x, I.k26, I.za, I.zb⟩⟩
    · -- operation 19
      simp only [Region.binds, listed_bit hL] at hdep
      have d18 : L 18 = true := by first | simpa [hL] using hdep | (simp [hL, Region.binds] at hdep; simp [hdep])
      have e18 := I.v18 d18
      refine wpOp_step rfl (fun K' hK => ?_)
      rw [e18]
      go_simp
      exact hK _ _ ⟨_, bit_set hL hsz 19 (by omega), fun j => if j = 37 then .pointer (some ⟨m, 0, none⟩) else s j, by first | (simp [frT, e18]; done) | (simp [frT, e18]; rfl), by simpa using hsz, ⟨I.v0, I.v1, I.v2, I.v3, I.v4, I.v5, I.v6, I.v7, I.v8, I.v9, I.v10, I.v11, I.v12, I.v13, I.v14, I.v15, I.v16, I.v17, I.v18, fun _ => rfl, I.v20, I.v21, I.v22, I.v23, I.v24, I.x, I.k26, I.za, I.zb⟩⟩
    · -- operation 20
      simp only [Region.binds, listed_bit hL] at hdep
      have d19 : L 19 = true := by first | simpa [hL] using hdep | (simp [hL, Region.binds] at hdep; simp [hdep])
      have e19 := I.v19 d19
      refine wpOp_step rfl (fun K' hK => ?_)
      rw [e19]
      go_simp
      exact hK _ _ ⟨_, bit_set hL hsz 20 (by omega), fun j => if j = 38 then .pointer (some ⟨m, 0, none⟩) else s j, by first | (simp [frT, e19]; done) | (simp [frT, e19]; rfl), by simpa using hsz, ⟨I.v0, I.v1, I.v2, I.v3, I.v4, I.v5, I.v6, I.v7, I.v8, I.v9, I.v10, I.v11, I.v12, I.v13, I.v14, I.v15, I.v16, I.v17, I.v18, I.v19, fun _ => rfl, I.v21, I.v22, I.v23, I.v24, I.x, I.k26, I.za, I.zb⟩⟩
    · -- operation 21
      simp only [Region.binds, listed_bit hL] at hdep
      have d20 : L 20 = true := by first | simpa [hL] using hdep | (simp [hL, Region.binds] at hdep; simp [hdep])
      have e20 := I.v20 d20
      refine wpOp_step rfl (fun K' hK => ?_)
      rw [e20]
      go_simp
      exact hK _ _ ⟨_, bit_set hL hsz 21 (by omega), fun j => if j = 39 then .iface 88 (.pointer (some ⟨bt, 0, none⟩)) else s j, by first | (simp [frT, e20]; done) | (simp [frT, e20]; rfl), by simpa using hsz, ⟨I.v0, I.v1, I.v2, I.v3, I.v4, I.v5, I.v6, I.v7, I.v8, I.v9, I.v10, I.v11, I.v12, I.v13, I.v14, I.v15, I.v16, I.v17, I.v18, I.v19, I.v20, fun _ => rfl, I.v22, I.v23, I.v24, I.x, I.k26, I.za, I.zb⟩⟩
    · -- operation 22
      simp only [Region.binds, listed_bit hL] at hdep
      refine wpOp_step rfl (fun K' hK => ?_)
      go_simp
      exact hK _ _ ⟨_, bit_set hL hsz 22 (by omega), fun j => if j = 40 then .int .i64 i else s j, by first | (simp [frT]; done) | (simp [frT]; rfl), by simpa using hsz, ⟨I.v0, I.v1, I.v2, I.v3, I.v4, I.v5, I.v6, I.v7, I.v8, I.v9, I.v10, I.v11, I.v12, I.v13, I.v14, I.v15, I.v16, I.v17, I.v18, I.v19, I.v20, I.v21, fun _ => rfl, I.v23, I.v24, I.x, I.k26, I.za, I.zb⟩⟩
    · -- operation 23
      simp only [Region.binds, listed_bit hL] at hdep
      have d21 : L 21 = true := by first | simpa [hL] using hdep | (simp [hL, Region.binds] at hdep; simp [hdep])
      have e21 := I.v21 d21
      have d22 : L 22 = true := by first | simpa [hL] using hdep | (simp [hL, Region.binds] at hdep; simp [hdep])
      have e22 := I.v22 d22
      refine wpOp_step rfl (fun K' hK => ?_)
      rw [e21, e22]
      go_simp
      refine (CL.out _).mono ?_
      rintro e w3 ⟨rfl, x3⟩
      exact hK _ _ ⟨_, bit_set hL hsz 23 (by omega), fun j => if j = 41 then .bool tn else s j, by first | (simp [frT, e21, e22]; done) | (simp [frT, e21, e22]; rfl), by simpa using hsz, ⟨I.v0, I.v1, I.v2, I.v3, I.v4, I.v5, I.v6, I.v7, I.v8, I.v9, I.v10, I.v11, I.v12, I.v13, I.v14, I.v15, I.v16, I.v17, I.v18, I.v19, I.v20, I.v21, I.v22, fun _ => rfl, I.v24, I.x.trans x3, I.k26, fun h1 h2 => by obtain ⟨g, y1, y2, y3⟩ := I.za h1 h2; exact ⟨g, y1, y2, y3.ext x3⟩, fun h1 => by obtain ⟨g, y1, y2, y3⟩ := I.zb h1; exact ⟨g, y1, y2, y3.ext x3⟩⟩⟩
    · -- operation 24
      simp only [Region.binds, listed_bit hL] at hdep
      have d5 : L 5 = true := by first | simpa [hL] using hdep | (simp [hL, Region.binds] at hdep; simp [hdep])
      have e5 := I.v5 d5
      have d11 : L 11 = true := by first | simpa [hL] using hdep | (simp [hL, Region.binds] at hdep; simp [hdep])
      have e11 := I.v11 d11
      have d17 : L 17 = true := by first | simpa [hL] using hdep | (simp [hL, Region.binds] at hdep; simp [hdep])
      have e17 := I.v17 d17
      have d23 : L 23 = true := by first | simpa [hL] using hdep | (simp [hL, Region.binds] at hdep; simp [hdep])
      have e23 := I.v23 d23
      refine wpOp_step rfl (fun K' hK => ?_)
      rw [e5, e11, e17, e23]
      go_simp
      exact hK _ _ ⟨_, bit_set hL hsz 24 (by omega), fun j => if j = 42 then .agg #[.int .i64 tc, .int .i64 tf, .int .i64 th, .bool tn, .slice none 0 0, .string ByteArray.empty] else s j, by first | (simp [frT, e5, e11, e17, e23]; done) | (simp [frT, e5, e11, e17, e23]; rfl), by simpa using hsz, ⟨I.v0, I.v1, I.v2, I.v3, I.v4, I.v5, I.v6, I.v7, I.v8, I.v9, I.v10, I.v11, I.v12, I.v13, I.v14, I.v15, I.v16, I.v17, I.v18, I.v19, I.v20, I.v21, I.v22, I.v23, fun _ => rfl, I.x, I.k26, I.za, I.zb⟩⟩
    · -- operation 25
      simp only [Region.binds, listed_bit hL] at hdep
      have n26 : L 26 = false := by cases hh : L 26 with | false => rfl | true => rw [I.k26 hh] at hn0; cases hn0
      refine wpOp_step rfl (fun K' hK => ?_)
      go_simp
      exact hK _ _ ⟨_, bit_set hL hsz 25 (by omega), fun j => if j = 5 then .pointer (some ⟨W.heap.size, 0, none⟩) else s j, by first | (simp [frT]; done) | (simp [frT]; rfl), by simpa using hsz, ⟨I.v0, I.v1, I.v2, I.v3, I.v4, I.v5, I.v6, I.v7, I.v8, I.v9, I.v10, I.v11, I.v12, I.v13, I.v14, I.v15, I.v16, I.v17, I.v18, I.v19, I.v20, I.v21, I.v22, I.v23, I.v24, is_ext w1 _, fun h => rfl, fun _ _ => ⟨_, rfl, hfz, Blk.new _ _ _⟩, fun h => absurd (show L 26 = true from h) (by rw [n26]; decide)⟩⟩
    · -- operation 26
      simp only [Region.binds, listed_bit hL] at hdep
      have d24 : L 24 = true := by first | simpa [hL] using hdep | (simp [hL, Region.binds] at hdep; simp [hdep])
      have e24 := I.v24 d24
      have d25 : L 25 = true := by first | simpa [hL] using hdep | (simp [hL, Region.binds] at hdep; simp [hdep])
      obtain ⟨g, e25, hg, hB⟩ := I.za d25 hn0
      obtain ⟨q1, q2, q3⟩ := hB.rules
      refine wpOp_step rfl (fun K' hK => ?_)
      rw [e24, e25]
      have IX := Lib.hid I
      have HB := Lib.hid hB
      clear I hB
      go_simp
      exact hK _ _ ⟨_, bit_set hL hsz 26 (by omega), s, by first | (simp [frT, e24, e25]; done) | (simp [frT, e24, e25]; rfl), by simpa using hsz, ⟨IX.out.v0, IX.out.v1, IX.out.v2, IX.out.v3, IX.out.v4, IX.out.v5, IX.out.v6, IX.out.v7, IX.out.v8, IX.out.v9, IX.out.v10, IX.out.v11, IX.out.v12, IX.out.v13, IX.out.v14, IX.out.v15, IX.out.v16, IX.out.v17, IX.out.v18, IX.out.v19, IX.out.v20, IX.out.v21, IX.out.v22, IX.out.v23, IX.out.v24, ((((((IX.out.x.setNew (p := ⟨g, 0, none⟩) hg _).setNew (p := ⟨g, 1, none⟩) hg _).setNew (p := ⟨g, 2, none⟩) hg _).setNew (p := ⟨g, 3, none⟩) hg _).setNew (p := ⟨g, 4, none⟩) hg _).setNew (p := ⟨g, 5, none⟩) hg _), fun _ => d25, fun _ h => absurd h (by simp), fun _ => ⟨g, e25, hg, ((((((HB.out.set 0 _).set 1 _).set 2 _).set 3 _).set 4 _).set 5 _)⟩⟩⟩
  · rintro listed a W ⟨L, hL, s, rfl, hsz, I⟩ hr
    have ALL : ∀ i, i < 27 → L i = true := fun i hi => by rw [← hL i]; exact all_listed_m (by kernel_rfl) hsz hr i hi
    obtain ⟨g, e5, hg, hB⟩ := I.zb (ALL 26 (by omega))
    have hx := I.x
    clear I hL ALL hr hsz
    unfold frT
    dsimp only
    rw [e5]
    have iW : IsExt w W := ⟨i1.out.trans hx⟩
    have iWW : IsExt W W := ⟨Ext.refl _⟩
    have c2 := (iW.out.below.cell (p := ⟨m, 0, none⟩) ltm).trans C0.out
    have b0 := BR.out.lt
    clear hm1 ltm1 CC CF CA CL hf
    go_wp2_with fail
    refine (CS.out _).mono ?_
    rintro e w2 ⟨rfl, x2⟩
    have xw2 := Lib.hid (hx.trans ((is_ext W _).trans x2))
    replace iW : IsExt w w2 := ⟨i1.out.trans xw2.out⟩
    have BT := Lib.hid (hB.ext ((is_ext W _).trans x2))
    obtain ⟨q1, q2, q3⟩ := BT.out.rules
    obtain ⟨iV, iV1, iV2, iV3, iV4⟩ := info_parts infoV
    have s12 := xw2.out.below.size
    clear x2 CS c2 hx hB iWW
    go_wp2_with fail
    go_loopw [9, 76] (fun _ jv wr => ∃ jj : Nat, jj ≤ tF.length ∧ jv = .int .i64 jj ∧ Ext w1 wr ∧ ∃ vF, Blk wr g 62 #[.int .i64 tc, .int .i64 tf, .int .i64 th, .bool tn, vF, .string ByteArray.empty] ∧ Own wr w1.heap.size 40 vF jj 2 (cF tF)) (fun _ jv _ => tF.length - (intOf jv).toNat)
    case atStart => exact ⟨0, by omega, rfl, xw2.out, _, BT.out, World.ownsRow_nil _ _ _ _⟩
    case round =>
      clear q1 q2 q3 BT xw2
      obtain ⟨jj, hj, rfl, xr, vF, bg, of⟩ := hrel
      have XR := Lib.hid xr
      have BG := Lib.hid bg
      have OF := Lib.hid of
      by_cases hlt : jj < tF.length
      · have jI : (jj : Int) < (tF.length : Int) := by omega
        have CFL := CB.out jj hlt
        have hcj : (List.range 2).map (cF tF jj) = [.bool (vAt tF jj).obj, .int .i64 (vAt tF jj).n] := rfl
        unfold val at CFL
        clear xr bg of CB
        generalize vAt tF jj = v at *
        generalize hcc : cF tF = c at *
        go_upto_region 17 with (fail)
        refine wp_any_act (fun A hA => ?_)
        have eA : A = frU m w.heap.size g jj i (fun q => A.tmps.getD q undef) (fun q => A.tmps.getD q undef) := by rw [hA]; rfl
        obtain ⟨uu, huu⟩ : ∃ uu, (fun q => A.tmps.getD q undef) = uu := ⟨_, rfl⟩
        rw [huu] at eA
        rw [hA] at huu
        have HU := Lib.hid huu
        clear hA huu
        subst eA
        refine wp_region_inv (Inv := TFInv w1 m bt g i tc tf th tn vF v jj c w.heap.size uu) (by kernel_rfl) ?_ ?_ ?_
        · refine ⟨fun _ => false, fun k => ?_, uu, rfl, by simp, ⟨?_, ?_, ?_, ?_, ?_, ?_, ?_, ?_, ?_, ?_, ?_, ?_, ?_, ?_, ?_, ?_, ?_, ?_⟩⟩
          · rw [Array.getD_eq_getD_getElem?, Array.getElem?_replicate]; split <;> rfl
          · intro h; exact absurd h (by decide)
          · intro h; exact absurd h (by decide)
          · intro h; exact absurd h (by decide)
          · intro h; exact absurd h (by decide)
          · intro h; exact absurd h (by decide)
          · intro h; exact absurd h (by decide)
          · intro h; exact absurd h (by decide)
          · intro h; exact absurd h (by decide)
          · intro h; exact absurd h (by decide)
          · intro h; exact absurd h (by decide)
          · exact XR.out.drew
          · intro h; exact absurd h (by decide)
          · intro h; exact absurd h (by decide)
          · exact fun _ => BG.out.drew
          · exact fun _ => OF.out.ext ((Ext.refl _).drew)
          · intro h; exact absurd h (by decide)
          · intro h; exact absurd h (by decide)
          · intro h; exact absurd h (by decide)
        · rintro listed a W ii ⟨L, hL, s, rfl, hsz, I⟩ hi
          obtain ⟨hlt, hnot, hdep⟩ := (ready_iff _ _).1 hi
          have hiN : ii < 13 := hlt
          have casesN : ii = 0 ∨ ii = 1 ∨ ii = 2 ∨ ii = 3 ∨ ii = 4 ∨ ii = 5 ∨ ii = 6 ∨ ii = 7 ∨ ii = 8 ∨ ii = 9 ∨ ii = 10 ∨ ii = 11 ∨ ii = 12 := by omega
          have hn0 : L ii = false := by rw [← hL ii]; exact not_bit hnot
          clear hi hlt hiN hnot
          have iW : IsExt w W := ⟨i1.out.trans I.x⟩
          have hc := (iW.out.below.cell (p := ⟨m, 0, none⟩) ltm).trans C0.out
          have hlm : m < W.heap.size := Nat.lt_of_lt_of_le ltm iW.out.below.size
          have hfz := I.x.below.size
          unfold frU
          rcases casesN with rfl | rfl | rfl | rfl | rfl | rfl | rfl | rfl | rfl | rfl | rfl | rfl | rfl
          · -- operation 0
            simp only [Region.binds, listed_bit hL] at hdep
            refine wpOp_step rfl (fun K' hK => ?_)
            go_simp
            exact hK _ _ ⟨_, bit_set hL hsz 0 (by omega), fun j => if j = 79 then .pointer (some ⟨g, 4, none⟩) else s j, by first | (simp [frU]; done) | (simp [frU]; rfl), by simpa using hsz, ⟨fun _ => rfl, I.v1, I.v2, I.v3, I.v4, I.v5, I.v6, I.v7, I.v8, I.v11, I.x, I.k10, I.k12, I.bA, I.oA, I.nA, I.oB, I.bB⟩⟩
          · -- operation 1
            simp only [Region.binds, listed_bit hL] at hdep
            have d0 : L 0 = true := by first | simpa [hL] using hdep | (simp [hL, Region.binds] at hdep; simp [hdep])
            have e0 := I.v0 d0
            have n12 : L 12 = false := by cases hh : L 12 with | false => rfl | true => rw [(I.k12 hh).2] at hn0; cases hn0
            obtain ⟨q1, q2, q3⟩ := (I.bA n12).rules
            refine wpOp_step rfl (fun K' hK => ?_)
            rw [e0]
            go_simp
            exact hK _ _ ⟨_, bit_set hL hsz 1 (by omega), fun j => if j = 80 then vF else s j, by first | (simp [frU, e0]; done) | (simp [frU, e0]; rfl), by simpa using hsz, ⟨I.v0, fun _ => rfl, I.v2, I.v3, I.v4, I.v5, I.v6, I.v7, I.v8, I.v11, I.x, fun _ => rfl, fun h => ⟨(I.k12 h).1, rfl⟩, I.bA, I.oA, I.nA, I.oB, I.bB⟩⟩
          · -- operation 2
            simp only [Region.binds, listed_bit hL] at hdep
            refine wpOp_step rfl (fun K' hK => ?_)
            go_simp
            exact hK _ _ ⟨_, bit_set hL hsz 2 (by omega), fun j => if j = 81 then .pointer (some ⟨m, 0, none⟩) else s j, by first | (simp [frU]; done) | (simp [frU]; rfl), by simpa using hsz, ⟨I.v0, I.v1, fun _ => rfl, I.v3, I.v4, I.v5, I.v6, I.v7, I.v8, I.v11, I.x, I.k10, I.k12, I.bA, I.oA, I.nA, I.oB, I.bB⟩⟩
          · -- operation 3
            simp only [Region.binds, listed_bit hL] at hdep
            have d2 : L 2 = true := by first | simpa [hL] using hdep | (simp [hL, Region.binds] at hdep; simp [hdep])
            have e2 := I.v2 d2
            refine wpOp_step rfl (fun K' hK => ?_)
            rw [e2]
            go_simp
            exact hK _ _ ⟨_, bit_set hL hsz 3 (by omega), fun j => if j = 82 then .pointer (some ⟨m, 0, none⟩) else s j, by first | (simp [frU, e2]; done) | (simp [frU, e2]; rfl), by simpa using hsz, ⟨I.v0, I.v1, I.v2, fun _ => rfl, I.v4, I.v5, I.v6, I.v7, I.v8, I.v11, I.x, I.k10, I.k12, I.bA, I.oA, I.nA, I.oB, I.bB⟩⟩
          · -- operation 4
            simp only [Region.binds, listed_bit hL] at hdep
            have d3 : L 3 = true := by first | simpa [hL] using hdep | (simp [hL, Region.binds] at hdep; simp [hdep])
            have e3 := I.v3 d3
            refine wpOp_step rfl (fun K' hK => ?_)
            rw [e3]
            go_simp
            exact hK _ _ ⟨_, bit_set hL hsz 4 (by omega), fun j => if j = 83 then .pointer (some ⟨m, 0, none⟩) else s j, by first | (simp [frU, e3]; done) | (simp [frU, e3]; rfl), by simpa using hsz, ⟨I.v0, I.v1, I.v2, I.v3, fun _ => rfl, I.v5, I.v6, I.v7, I.v8, I.v11, I.x, I.k10, I.k12, I.bA, I.oA, I.nA, I.oB, I.bB⟩⟩
          · -- operation 5
            simp only [Region.binds, listed_bit hL] at hdep
            have d4 : L 4 = true := by first | simpa [hL] using hdep | (simp [hL, Region.binds] at hdep; simp [hdep])
            have e4 := I.v4 d4
            refine wpOp_step rfl (fun K' hK => ?_)
            rw [e4]
            go_simp
            exact hK _ _ ⟨_, bit_set hL hsz 5 (by omega), fun j => if j = 84 then .iface 88 (.pointer (some ⟨bt, 0, none⟩)) else s j, by first | (simp [frU, e4]; done) | (simp [frU, e4]; rfl), by simpa using hsz, ⟨I.v0, I.v1, I.v2, I.v3, I.v4, fun _ => rfl, I.v6, I.v7, I.v8, I.v11, I.x, I.k10, I.k12, I.bA, I.oA, I.nA, I.oB, I.bB⟩⟩
          · -- operation 6
            simp only [Region.binds, listed_bit hL] at hdep
            refine wpOp_step rfl (fun K' hK => ?_)
            go_simp
            exact hK _ _ ⟨_, bit_set hL hsz 6 (by omega), fun j => if j = 85 then .int .i64 i else s j, by first | (simp [frU]; done) | (simp [frU]; rfl), by simpa using hsz, ⟨I.v0, I.v1, I.v2, I.v3, I.v4, I.v5, fun _ => rfl, I.v7, I.v8, I.v11, I.x, I.k10, I.k12, I.bA, I.oA, I.nA, I.oB, I.bB⟩⟩
          · -- operation 7
            simp only [Region.binds, listed_bit hL] at hdep
            refine wpOp_step rfl (fun K' hK => ?_)
            go_simp
            exact hK _ _ ⟨_, bit_set hL hsz 7 (by omega), fun j => if j = 86 then .int .i64 jj else s j, by first | (simp [frU]; done) | (simp [frU]; rfl), by simpa using hsz, ⟨I.v0, I.v1, I.v2, I.v3, I.v4, I.v5, I.v6, fun _ => rfl, I.v8, I.v11, I.x, I.k10, I.k12, I.bA, I.oA, I.nA, I.oB, I.bB⟩⟩
          · -- operation 8
            simp only [Region.binds, listed_bit hL] at hdep
            have d5 : L 5 = true := by first | simpa [hL] using hdep | (simp [hL, Region.binds] at hdep; simp [hdep])
            have e5 := I.v5 d5
            have d6 : L 6 = true := by first | simpa [hL] using hdep | (simp [hL, Region.binds] at hdep; simp [hdep])
            have e6 := I.v6 d6
            have d7 : L 7 = true := by first | simpa [hL] using hdep | (simp [hL, Region.binds] at hdep; simp [hdep])
            have e7 := I.v7 d7
            refine wpOp_step rfl (fun K' hK => ?_)
            rw [e5, e6, e7]
            go_simp
            refine (CFL.out _).mono ?_
            rintro e w3 ⟨rfl, x3⟩
            exact hK _ _ ⟨_, bit_set hL hsz 8 (by omega), fun j => if j = 87 then .agg #[.bool v.obj, .int .i64 v.n] else s j, by first | (simp [frU, e5, e6, e7]; done) | (simp [frU, e5, e6, e7]; rfl), by simpa using hsz, ⟨I.v0, I.v1, I.v2, I.v3, I.v4, I.v5, I.v6, I.v7, fun _ => rfl, I.v11, I.x.trans x3, I.k10, I.k12, fun h => (I.bA h).ext x3, fun h => (I.oA h).ext x3, fun h1 h2 => by obtain ⟨gb, y1, y2⟩ := I.nA h1 h2; exact ⟨gb, y1, y2.ext x3⟩, fun h => ⟨(I.oB h).1, (I.oB h).2.ext x3⟩, fun h => (I.bB h).ext x3⟩⟩
          · -- operation 9
            simp only [Region.binds, listed_bit hL] at hdep
            have d8 : L 8 = true := by first | simpa [hL] using hdep | (simp [hL, Region.binds] at hdep; simp [hdep])
            have e8 := I.v8 d8
            refine wpOp_step rfl (fun K' hK => ?_)
            rw [e8]
            go_simp
            exact hK _ _ ⟨_, bit_set hL hsz 9 (by omega), fun j => if j = 88 then .slice (some ⟨W.heap.size, 0, none⟩) 1 1 else s j, by first | (simp [frU, e8]; done) | (simp [frU, e8]; rfl), by simpa using hsz, ⟨I.v0, I.v1, I.v2, I.v3, I.v4, I.v5, I.v6, I.v7, I.v8, I.v11, I.x.alloc _, I.k10, I.k12, fun h => (I.bA h).alloc _, fun h => (I.oA h).ext ((Ext.refl _).alloc _), fun _ _ => ⟨_, rfl, Blk.new _ _ _⟩, fun h => ⟨(I.oB h).1, (I.oB h).2.ext ((Ext.refl _).alloc _)⟩, fun h => (I.bB h).alloc _⟩⟩
          · -- operation 10
            simp only [Region.binds, listed_bit hL] at hdep
            have d1 : L 1 = true := by first | simpa [hL] using hdep | (simp [hL, Region.binds] at hdep; simp [hdep])
            have e1 := I.v1 d1
            have d9 : L 9 = true := by first | simpa [hL] using hdep | (simp [hL, Region.binds] at hdep; simp [hdep])
            have n12 : L 12 = false := by cases hh : L 12 with | false => rfl | true => rw [(I.k12 hh).1] at hn0; cases hn0
            obtain ⟨gb, e9, hgb⟩ := I.nA d9 hn0
            have own := I.oA hn0
            have hB := I.bA n12
            refine wpOp_step rfl (fun K' hK => ?_)
            refine step_append_lies _ (by rfl) _ _ _ (by rfl) w1.heap.size 40 iV (.agg #[.bool false, .int .i64 0]) 2 16 Tryz.underlying42 iV1 iV2 iV3 iV4 rfl (by decide) vF jj (flat jj 2 c) (by exact e1) own ⟨gb, 0, none⟩ 1 1 [.bool v.obj, .int .i64 v.n] (by exact e9) (by rfl) (World.news_of_block hgb) (by simp [Value.oneCell']) (by omega) (by unfold maxLen; omega) (by omega) hfz W.heap.size rfl ?_
            intro gg cc w3 o3 g3 hat hlt3
            have kp : Keep (fun k => vF.ownBlock = some k) W w3 := ⟨g3.os, g3.tape, g3.output, g3.size, fun k hk hn => g3.block k hk (fun e => hn e.symm)⟩
            have x3 : Ext w1 w3 := Ext.of_below (Keep.below I.x.below kp I.x.below.size (fun i hi e => by have := (own.block e).1; omega))
            have b3 := hB.keep kp (fun e => by obtain ⟨_, cs, hq⟩ := own.block e; exact hB.ne hq (by decide) rfl)
            have o4 : Own w3 w1.heap.size 40 (.slice (some ⟨gg, 0, none⟩) (jj + 1) cc) (jj + 1) 2 c := by
              show w3.ownsRow _ _ _ _ _ _
              rw [flat_succ, hcj]; exact o3
            exact hK _ _ ⟨_, bit_set hL hsz 10 (by omega), fun j => if j = 89 then .slice (some ⟨gg, 0, none⟩) (jj + 1) cc else s j, by first | (simp [frU]; done) | (simp [frU]; rfl), by simpa using hsz, ⟨I.v0, I.v1, I.v2, I.v3, I.v4, I.v5, I.v6, I.v7, I.v8, I.v11, x3, fun _ => d1, fun h => absurd (show L 12 = true from h) (by rw [n12]; decide), fun _ => b3, fun h => absurd h (by simp), fun _ h => absurd h (by simp), fun _ => ⟨⟨gg, cc, rfl⟩, o4⟩, fun h => absurd (show L 12 = true from h) (by rw [n12]; decide)⟩⟩
          · -- operation 11
            simp only [Region.binds, listed_bit hL] at hdep
            refine wpOp_step rfl (fun K' hK => ?_)
            go_simp
            exact hK _ _ ⟨_, bit_set hL hsz 11 (by omega), fun j => if j = 90 then .pointer (some ⟨g, 4, none⟩) else s j, by first | (simp [frU]; done) | (simp [frU]; rfl), by simpa using hsz, ⟨I.v0, I.v1, I.v2, I.v3, I.v4, I.v5, I.v6, I.v7, I.v8, fun _ => rfl, I.x, I.k10, I.k12, I.bA, I.oA, I.nA, I.oB, I.bB⟩⟩
          · -- operation 12
            simp only [Region.binds, listed_bit hL] at hdep
            have d10 : L 10 = true := by first | simpa [hL] using hdep | (simp [hL, Region.binds] at hdep; simp [hdep])
            have d11 : L 11 = true := by first | simpa [hL] using hdep | (simp [hL, Region.binds] at hdep; simp [hdep])
            have e11 := I.v11 d11
            obtain ⟨⟨gg, cc, e10⟩, own⟩ := I.oB d10
            have hB := I.bA hn0
            obtain ⟨q1, q2, q3⟩ := hB.rules
            refine wpOp_step rfl (fun K' hK => ?_)
            rw [e11, e10]
            have IX := Lib.hid I
            have HB := Lib.hid hB
            have OW := Lib.hid own
            clear I hB own
            go_simp
            exact hK _ _ ⟨_, bit_set hL hsz 12 (by omega), s, by first | (simp [frU, e11, e10]; done) | (simp [frU, e11, e10]; rfl), by simpa using hsz, ⟨IX.out.v0, IX.out.v1, IX.out.v2, IX.out.v3, IX.out.v4, IX.out.v5, IX.out.v6, IX.out.v7, IX.out.v8, IX.out.v11, IX.out.x.setNew (p := ⟨g, 4, none⟩) hg _, IX.out.k10, fun _ => ⟨d10, IX.out.k10 d10⟩, fun h => absurd h (by simp), fun h => absurd (show L 10 = false from h) (by rw [d10]; decide), fun _ h => absurd (show L 10 = false from h) (by rw [d10]; decide), fun _ => ⟨⟨gg, cc, e10⟩, OW.out.kt1 HB.out ((Keep.refl (· = g) W).setCell (p := ⟨g, 4, none⟩) rfl _) (by decide)⟩, fun _ => by rw [e10]; exact HB.out.set 4 _⟩⟩
        · rintro listed a W ⟨L, hL, s, rfl, hsz, I⟩ hr
          have ALL : ∀ i, i < 13 → L i = true := fun i hi => by rw [← hL i]; exact all_listed_m (by kernel_rfl) hsz hr i hi
          have bN := I.bB (ALL 12 (by omega))
          obtain ⟨⟨gg, cc, e10⟩, oN⟩ := I.oB (ALL 10 (by omega))
          rw [e10] at bN oN
          have xN := I.x
          clear I hL ALL hr hsz
          unfold frU
          dsimp only
          rw [← HU.out]
          clear HU
          simp only [Array.getD_eq_getD_getElem?, List.getElem?_toArray, List.getElem?_cons_succ, List.getElem?_cons_zero, Option.getD_some]
          subst hcc
          go_wp2_with fail
          go_roundw
          case rel => exact ⟨jj + 1, by omega, by go_num, xN, _, bN, oN⟩
          case measure => simp [intOf]; omega
      · obtain rfl : jj = tF.length := by omega
        obtain ⟨r1, r2, r3⟩ := bg.rules
        have br := BR.out.ext xr
        obtain ⟨t1, t2, t3⟩ := br.rules
        have ne1 : g ≠ w.heap.size := by omega
        have ne2 : w.heap.size ≠ g := by omega
        obtain ⟨A0, cp0, hA0⟩ := of.form
        have hA0 : vF = .slice A0 tF.length cp0 := hA0
        subst hA0
        clear bg of br CB BG
        go_wp2_with fail
        refine bodyPost_ret (v := .agg #[.int .i64 tc, .int .i64 tf, .int .i64 th, .bool tn, .slice A0 tF.length cp0, .string ByteArray.empty]) (by simp [results, Tryz.results26, go_sem, t1]) rfl ?_
        have x0 : Ext w wr := i1.out.trans XR.out
        have xe := ((((((x0.setNew (p := ⟨w.heap.size, 0, none⟩) (Nat.le_refl _) (.int .i64 tc)).setNew (p := ⟨w.heap.size, 1, none⟩) (Nat.le_refl _) (.int .i64 tf)).setNew (p := ⟨w.heap.size, 2, none⟩) (Nat.le_refl _) (.int .i64 th)).setNew (p := ⟨w.heap.size, 3, none⟩) (Nat.le_refl _) (.bool tn)).setNew (p := ⟨w.heap.size, 4, none⟩) (Nat.le_refl _) (.slice A0 tF.length cp0)).setNew (p := ⟨w.heap.size, 5, none⟩) (Nat.le_refl _) (.string ByteArray.empty))
        refine ⟨_, rfl, ?_, xe⟩
        have br := BR.out.ext XR.out
        have k6 : Keep (· = w.heap.size) wr ((((((wr.setCell ⟨w.heap.size, 0, none⟩ (.int .i64 tc)).setCell ⟨w.heap.size, 1, none⟩ (.int .i64 tf)).setCell ⟨w.heap.size, 2, none⟩ (.int .i64 th)).setCell ⟨w.heap.size, 3, none⟩ (.bool tn)).setCell ⟨w.heap.size, 4, none⟩ (.slice A0 tF.length cp0)).setCell ⟨w.heap.size, 5, none⟩ (.string ByteArray.empty)) := ((((((Keep.refl (· = w.heap.size) wr).setCell (p := ⟨w.heap.size, 0, none⟩) rfl _).setCell (p := ⟨w.heap.size, 1, none⟩) rfl _).setCell (p := ⟨w.heap.size, 2, none⟩) rfl _).setCell (p := ⟨w.heap.size, 3, none⟩) rfl _).setCell (p := ⟨w.heap.size, 4, none⟩) rfl _).setCell (p := ⟨w.heap.size, 5, none⟩) rfl _
        exact (OF.out.kt1 br k6 (by decide)).base (by omega)
end
end Go.Proofs.YtnhijjcplnomgaaGreat.World
namespace Go.Proofs.YtnhijjcplnomgaaGreat.World
open Go.RowKit Go.Proofs.YtnhijjcplnomgaaGreat.Plain
set_option linter.unusedVariables false
attribute [local go_sem ↓] Go.wp_at_zero Go.wp_at_succ
set_option maxRecDepth 100000 in
set_option maxHeartbeats 2000000 in
theorem same08 (w : World) (a b d : Int) (fin : Bool) (B : ByteArray) (vA vB : Value) (F : List PV) (hA : ValsAt w vA F) (hB : ValsAt w vB F) (hl : F.length ≤ 1000) :
    Calls Tryz.prog 71 #[.agg #[.int .i64 a, .int .i64 b, .int .i64 d, .bool fin, vA, .string B], .agg #[.int .i64 a, .int .i64 b, .int .i64 d, .bool fin, vB, .string B]] w fun e w' => e = .returned (.bool true) ∧ Ext w w' := by
  obtain ⟨AA, cA, eA, a1, a2⟩ := Row.form hA
  obtain ⟨AB, cB, eB, b1, b2⟩ := Row.form hB
  subst eA eB
  have RA := Lib.hid (show Row w (.slice AA F.length cA) F.length 2 (fun i j => cV (vAt F i) j) from hA)
  have RB := Lib.hid (show Row w (.slice AB F.length cB) F.length 2 (fun i j => cV (vAt F i) j) from hB)
  clear hA hB
  generalize hn : F.length = n at *
  go_enter Tryz.func71, Tryz.ntmps71
  go_upto_region 1 with (fail)
  refine wp_name (fun w1 hW => ?_)
  have x1 : Ext w w1 := by rw [hW]; exact is_ext _ _
  have B2 : Hid (Blk w1 w.heap.size 62 #[.int .i64 a, .int .i64 b, .int .i64 d, .bool fin, .slice AA n cA, .string B]) := Lib.hid (by rw [hW]; exact (Blk.new w _ _).alloc _)
  have B3 : Hid (Blk w1 (w.heap.size + 1) 62 #[.int .i64 a, .int .i64 b, .int .i64 d, .bool fin, .slice AB n cB, .string B]) := Lib.hid (by rw [hW]; exact Blk.at_ _ _ (by simp))
  obtain ⟨p1, p2, p3⟩ := B2.out.rules
  obtain ⟨q1, q2, q3⟩ := B3.out.rules
  replace RA := Lib.hid (RA.out.ext x1)
  replace RB := Lib.hid (RB.out.ext x1)
  have X1 := Lib.hid x1
  clear hW x1
  generalize hg : w.heap.size = g at *
  have fb : (fin != fin) = false := by cases fin <;> rfl
  have sb : (B.toList != B.toList) = false := by simp
  go_wp2_with fail
  go_loopw [5] (fun jv wr => ∃ j : Nat, j ≤ n ∧ jv = .int .i64 j ∧ Ext w1 wr) (fun jv _ => n - (intOf jv).toNat)
  case atStart => exact ⟨0, by omega, rfl, Ext.refl _⟩
  case round =>
    obtain ⟨j, hj, rfl, xr⟩ := hrel
    have XR := Lib.hid xr
    clear p1 p2 p3 q1 q2 q3
    obtain ⟨p1, p2, p3⟩ := (B2.out.ext xr).rules
    obtain ⟨q1, q2, q3⟩ := (B3.out.ext xr).rules
    by_cases hlt : j < n
    · have jI : (j : Int) < (n : Int) := by omega
      obtain ⟨b1', o1, rfl, hb1, hc1⟩ := Row.at_ (RA.out.ext xr) j hlt
      obtain ⟨b2', o2, rfl, hb2, hc2⟩ := Row.at_ (RB.out.ext xr) j hlt
      have c1 := hc1 0 (by omega)
      have c2 := hc1 1 (by omega)
      have c3 := hc2 0 (by omega)
      have c4 := hc2 1 (by omega)
      replace c1 : wr.cell? ⟨b1', o1 + j * 2, none⟩ = some (.bool (vAt F j).obj) := c1
      replace c2 : wr.cell? ⟨b1', o1 + j * 2 + 1, none⟩ = some (.int .i64 (vAt F j).n) := c2
      replace c3 : wr.cell? ⟨b2', o2 + j * 2, none⟩ = some (.bool (vAt F j).obj) := c3
      replace c4 : wr.cell? ⟨b2', o2 + j * 2 + 1, none⟩ = some (.int .i64 (vAt F j).n) := c4
      generalize vAt F j = v at c1 c2 c3 c4
      obtain ⟨vo, vn⟩ := v
      replace c1 : wr.cell? ⟨b1', o1 + j * 2, none⟩ = some (.bool vo) := c1
      replace c2 : wr.cell? ⟨b1', o1 + j * 2 + 1, none⟩ = some (.int .i64 vn) := c2
      replace c3 : wr.cell? ⟨b2', o2 + j * 2, none⟩ = some (.bool vo) := c3
      replace c4 : wr.cell? ⟨b2', o2 + j * 2 + 1, none⟩ = some (.int .i64 vn) := c4
      clear hc1 hc2 xr
      cases vo
      all_goals
        go_upto_region 6 with (fail)
        refine wp_region_ext (by kernel_rfl) (by kernel_rfl) ?_
        repeat (go_big_quiet_step (fail))
        refine wpQuiet_nil ?_
        rintro W ⟨y, hWy⟩
        have xW : Hid (Ext w1 W) := Lib.hid (XR.out.trans ⟨y, hWy⟩)
        clear c1 c2 c3 c4 hWy p1 p2 p3 q1 q2 q3 XR
        go_wp2_with fail
        go_roundw
        case rel => exact ⟨j + 1, by omega, by go_num, xW.out⟩
        case measure => simp [intOf]; omega
    · obtain rfl : j = n := by omega
      have XW := Lib.hid (X1.out.trans xr)
      clear xr
      go_wp2_with fail
      go_ret
      exact ⟨rfl, XW.out⟩
set_option maxRecDepth 100000 in
set_option maxHeartbeats 2000000 in
theorem same00 (w : World) (a b d : Int) (fin : Bool) (B : ByteArray) (vA vB : Value) (F : List PV) (hA : ValsAt w vA F) (hB : ValsAt w vB F) (hl : F.length ≤ 1000) :
    Calls Tryz.prog 30 #[.agg #[.int .i64 a, .int .i64 b, .int .i64 d, .bool fin, vA, .string B], .agg #[.int .i64 a, .int .i64 b, .int .i64 d, .bool fin, vB, .string B]] w fun e w' => e = .returned (.bool true) ∧ Ext w w' := by
  have C := Lib.hid (fun W (x : Ext w W) => same08 W a b d fin B vA vB F (hA.ext x) (hB.ext x) hl)
  clear hA hB hl
  go_enter Tryz.func30, Tryz.ntmps30
  go_wp2_with fail
  refine calls_name (fun w1 hW => ?_)
  have x1 : Ext w w1 := by rw [hW]; exact is_ext _ _
  refine (C.out w1 x1).mono ?_
  rintro e w2 ⟨rfl, x2⟩
  have X2 := Lib.hid (x1.trans x2)
  clear hW x1 x2 C
  go_wp2_with fail
  go_ret
  exact ⟨rfl, X2.out⟩
end Go.Proofs.YtnhijjcplnomgaaGreat.World
namespace Go.Proofs.YtnhijjcplnomgaaGreat.World
open Go.RowKit Go.Proofs.YtnhijjcplnomgaaGreat.Plain
set_option linter.unusedVariables false
attribute [local go_sem ↓] Go.wp_at_zero Go.wp_at_succ
theorem Mov.of_keep' {w w' : World} {F : Nat → Prop} (k : Keep F w w') : Mov F F w w' := ⟨k, fun _ h => .inl h⟩
section
variable {w w' w2 : World} {F F' F2 : Nat → Prop} {m : Nat} {S S' : MS} {X : MX}
set_option maxRecDepth 100000 in
set_option maxHeartbeats 2000000 in
theorem ptwinF (h : M w F m S) (hp : S.phase ≠ 1) (x c at_ : Int) (n : Nat) (hn : n ≤ 60) (hc : S.cls x = c) (mN : S.madeN c = 0) (mF : S.madeF c = 1) (hsz : S.size x = n) (hfm : S.fmt x = 1) (hat : -100000 ≤ at_ ∧ at_ ≤ 100000) (L : Nat → MS) (mo : S.makeOK c n = true) (mi : S.makeId c n = at_) (m0 : S.make c n = L 0) (hr : ∀ i : Nat, i < n → (L i).phase ≠ 1 ∧ (L i).set at_ i ((L i).get x i) = L (i + 1)) :
    Calls Tryz.prog 98 #[.pointer (some ⟨m, 0, none⟩), .agg #[.bool true, .int .i64 x]] w fun e w' => e = .returned (.tuple #[.agg #[.bool true, .int .i64 at_], .bool true]) ∧ Goes F m (L n) w w' := by
  obtain ⟨bt, R⟩ := h.rd
  have CF := Lib.hid (fun W [IsExt w W] => hfm ▸ R.fmt W x)
  have CZ := Lib.hid (fun W [IsExt w W] => hsz ▸ R.size W x)
  have k0 := R.c0
  have l0 := R.lt
  have CC : Hid (∀ W [x' : IsExt w W], Calls Tryz.prog 176 #[.pointer (some ⟨bt, 0, none⟩), .int .i64 x] W fun e w' => e = .returned (.int .i64 c) ∧ Ext W w') := Lib.hid (fun W ix => by
    obtain ⟨X, hX⟩ := h
    obtain ⟨z1, _, _⟩ := hX.bm.rules
    have e0 : w.cell? ⟨m, 0, none⟩ = some (.iface 88 (.pointer (some ⟨X.bt, 0, none⟩))) := z1 0
    rw [k0] at e0
    injection e0 with e0; injection e0 with _ e0; injection e0 with e0; injection e0 with e0; injection e0 with e0
    have q := tclass (hX.ext ix.out).ts hX.wf x
    rw [hc] at q
    subst e0; exact q)
  have CM := Lib.hid (fun W [x : IsExt w W] => mmade (h.ext x.out) c)
  rw [mN, mF] at CM
  have CK := Lib.hid (fun W [x : IsExt w W] => mmake (h.ext x.out) hp c n)
  rw [mo, mi, m0] at CK
  have CP := Lib.hid (fun W => pplace W at_ true)
  rw [if_pos rfl] at CP
  have HF := Lib.hid h.lt
  have HR := Lib.hid hr
  obtain ⟨t1, t2⟩ := hat
  have dn : decide ((n : Int) < 0) = false := decide_eq_false (by omega)
  clear h hp R hc mN mF hsz hfm mo mi m0 hr
  go_enter Tryz.func98, Tryz.ntmps98
  go_upto_region 3 with (fail)
  refine wp_name (fun w1 hW => ?_)
  have i1 : IsExt w w1 := ⟨by rw [hW]; exact ((Ext.refl w).alloc _).alloc _⟩
  have B3 : Hid (Blk w1 w.heap.size 40 #[.bool true, .int .i64 x]) := Lib.hid (by rw [hW]; exact (Blk.new w _ _).alloc _)
  have B4 : Hid (Blk w1 (w.heap.size + 1) 40 #[.bool false, .int .i64 0]) := Lib.hid (by rw [hW]; exact Blk.at_ _ _ (by simp))
  have c1 := (i1.out.below.cell (p := ⟨m, 0, none⟩) l0).trans k0
  have l1 := Nat.lt_of_lt_of_le l0 i1.out.below.size
  obtain ⟨p1, p2, p3⟩ := B3.out.rules
  have K0 := Lib.hid k0
  clear hW k0
  generalize hg : w.heap.size = g at *
  refine wp_region_ext (by kernel_rfl) (by kernel_rfl) ?_
  repeat (go_big_quiet_step ((first | (go_at_call 176; exact calls_ext (CC.out _)))))
  refine wpQuiet_nil ?_
  rintro W ⟨x', hWW⟩
  have xx : Ext w1 W := ⟨x', hWW⟩
  have i2 : IsExt w W := ⟨i1.out.trans xx⟩
  clear hWW p1 p2 p3 c1 l1 CC
  go_wp2_with fail
  refine (CM.out _).mono ?_
  rintro e w3 ⟨rfl, x3⟩
  have i3 : IsExt w w3 := ⟨i2.out.trans x3⟩
  replace B3 := Lib.hid (B3.out.ext (xx.trans x3))
  replace B4 := Lib.hid (B4.out.ext (xx.trans x3))
  clear x3 xx CM i1 i2
  go_upto_region 7 with (fail)
  have c3 := (i3.out.below.cell (p := ⟨m, 0, none⟩) (show m < w.heap.size by rw [hg]; exact l0)).trans K0.out
  have l3 := Nat.lt_of_lt_of_le (show m < w.heap.size by rw [hg]; exact l0) i3.out.below.size
  obtain ⟨p1, p2, p3⟩ := B3.out.rules
  refine wp_region_ext (by kernel_rfl) (by kernel_rfl) ?_
  repeat (go_big_quiet_step ((first | (go_at_call 191; exact calls_ext (CZ.out _)))))
  refine wpQuiet_nil ?_
  rintro W4 ⟨x', hWW⟩
  have xx : Ext w3 W4 := ⟨x', hWW⟩
  have i4 : IsExt w W4 := ⟨i3.out.trans xx⟩
  replace B3 := Lib.hid (B3.out.ext xx)
  replace B4 := Lib.hid (B4.out.ext xx)
  clear hWW p1 p2 p3 c3 l3 CZ xx i3
  go_upto_region 8 with (fail)
  have c4 := (i4.out.below.cell (p := ⟨m, 0, none⟩) (show m < w.heap.size by rw [hg]; exact l0)).trans K0.out
  have l4 := Nat.lt_of_lt_of_le (show m < w.heap.size by rw [hg]; exact l0) i4.out.below.size
  obtain ⟨p1, p2, p3⟩ := B3.out.rules
  refine wp_region_ext (by kernel_rfl) (by kernel_rfl) ?_
  repeat (go_big_quiet_step ((first | (go_at_call 180; exact calls_ext (CF.out _)))))
  refine wpQuiet_nil ?_
  rintro W5 ⟨x', hWW⟩
  have xx : Ext W4 W5 := ⟨x', hWW⟩
  have i5 : IsExt w W5 := ⟨i4.out.trans xx⟩
  replace B3 := Lib.hid (B3.out.ext xx)
  replace B4 := Lib.hid (B4.out.ext xx)
  clear hWW p1 p2 p3 c4 l4 CF xx i4
  go_wp2_with fail
  refine (CK.out W5).mono ?_
  rintro e w6 ⟨rfl, gg⟩
  obtain ⟨F1, m6, v6⟩ := gg
  obtain ⟨b3, n3⟩ := v6.blk B3.out (fun hf => by have := HF.out _ hf; omega)
  obtain ⟨b4, n4⟩ := v6.blk B4.out (fun hf => by have := HF.out _ hf; omega)
  have V6 := Lib.hid ((Mov.of_ext i5.out).trans v6)
  have M6 := Lib.hid m6
  replace B3 := Lib.hid b3
  replace B4 := Lib.hid b4
  have N3 := Lib.hid n3
  have N4 := Lib.hid n4
  clear v6 m6 b3 b4 n3 n4 CK i5
  go_wp2_with fail
  go_loopw [67] (fun jv wr => ∃ j : Nat, j ≤ n ∧ jv = .int .i64 j ∧ M wr F1 m (L j) ∧ Keep F1 w6 wr) (fun jv _ => n - (intOf jv).toNat)
  case atStart => exact ⟨0, by omega, rfl, M6.out, Keep.refl _ _⟩
  case round =>
    obtain ⟨j, hj, rfl, mj, kj⟩ := hrel
    have MJ := Lib.hid mj
    have KJ := Lib.hid kj
    by_cases hlt : j < n
    · have jI : (j : Int) < (n : Int) := by omega
      obtain ⟨p1, p2, p3⟩ := (B3.out.keep kj N3.out).rules
      have ir : IsExt wr wr := ⟨Ext.refl _⟩
      obtain ⟨q1, q2⟩ := HR.out j hlt
      have CG := Lib.hid (fun W [e' : IsExt wr W] => mget (mj.ext e'.out) x j)
      have CW := Lib.hid (fun W [e' : IsExt wr W] => mset (mj.ext e'.out) q1 at_ j ((L j).get x j))
      rw [q2] at CW
      clear mj kj q1 q2
      generalize (L j).setOK at_ j ((L j).get x j) = so at *
      generalize (L j).get x j = v at *
      obtain ⟨vo, vn⟩ := v
      unfold val at CG CW
      go_wp2_with (first | (go_at_call 24; refine (CG.out _).mono ?_; rintro e w7 ⟨rfl, x7⟩; have i7 : IsExt wr w7 := ⟨x7⟩; clear x7))
      refine (CW.out _).mono ?_
      rintro e w8 ⟨rfl, m8, k8⟩
      have M8 := Lib.hid m8
      have K8 := Lib.hid ((KJ.out.ext i7.out).trans k8)
      clear m8 k8 CW CG MJ KJ p1 p2 p3 ir i7
      go_wp2_with fail
      go_roundw
      case rel => exact ⟨j + 1, by omega, by go_num, M8.out, K8.out⟩
      case measure => simp [intOf]; omega
    · obtain rfl : j = n := by omega
      have b4 := B4.out.keep kj N4.out
      clear mj kj B3 B4
      go_wp2_with fail
      refine (CP.out _).mono ?_
      rintro e w9 ⟨rfl, x9⟩
      obtain ⟨r1, r2, r3⟩ := (b4.ext x9).rules
      have V9 := (V6.out.trans (Mov.of_keep' KJ.out)).ext x9
      have M9 := Lib.hid (MJ.out.ext x9)
      have V := Lib.hid V9
      clear V9 x9 b4 CP
      go_wp2_with fail
      refine bodyPost_ret (v := .tuple #[.agg #[.bool true, .int .i64 at_], .bool true]) (by simp [results, Tryz.results98, go_sem, r1]) rfl ⟨rfl, F1, ?_, ?_⟩
      · exact M9.out.far (((Keep.refl (· = g + 1) w9).setCell (p := ⟨g + 1, 0, none⟩) rfl _).setCell (p := ⟨g + 1, 1, none⟩) rfl _) (fun j e hf => N4.out (e ▸ hf))
      · exact ⟨(V.out.keep.setNew (p := ⟨g + 1, 0, none⟩) (show w.heap.size ≤ g + 1 by omega) _).setNew (p := ⟨g + 1, 1, none⟩) (show w.heap.size ≤ g + 1 by omega) _, V.out.new⟩
set_option maxRecDepth 100000 in
set_option maxHeartbeats 2000000 in
theorem ptwinB (h : M w F m S) (hp : S.phase ≠ 1) (x c at_ : Int) (n : Nat) (hn : n ≤ 60) (hc : S.cls x = c) (mN : S.madeN c = 0) (mF : S.madeF c = 3) (hsz : S.size x = n) (hfm : S.fmt x = 3) (hat : -100000 ≤ at_ ∧ at_ ≤ 100000) (L : Nat → MS) (mo : S.makeOK c n = true) (mi : S.makeId c n = at_) (m0 : S.make c n = L 0) (hr : ∀ i : Nat, i < n → (L i).isByte x i = true ∧ (L i).isByte at_ i = true ∧ (0 ≤ byteN ((L i).t x).B i ∧ byteN ((L i).t x).B i ≤ 255) ∧ (L i).putB at_ i (byteN ((L i).t x).B i) = L (i + 1)) :
    Calls Tryz.prog 98 #[.pointer (some ⟨m, 0, none⟩), .agg #[.bool true, .int .i64 x]] w fun e w' => e = .returned (.tuple #[.agg #[.bool true, .int .i64 at_], .bool true]) ∧ Goes F m (L n) w w' := by
  obtain ⟨bt, R⟩ := h.rd
  have CF := Lib.hid (fun W [IsExt w W] => hfm ▸ R.fmt W x)
  have CZ := Lib.hid (fun W [IsExt w W] => hsz ▸ R.size W x)
  have k0 := R.c0
  have l0 := R.lt
  have CC : Hid (∀ W [x' : IsExt w W], Calls Tryz.prog 176 #[.pointer (some ⟨bt, 0, none⟩), .int .i64 x] W fun e w' => e = .returned (.int .i64 c) ∧ Ext W w') := Lib.hid (fun W ix => by
    obtain ⟨X, hX⟩ := h
    obtain ⟨z1, _, _⟩ := hX.bm.rules
    have e0 : w.cell? ⟨m, 0, none⟩ = some (.iface 88 (.pointer (some ⟨X.bt, 0, none⟩))) := z1 0
    rw [k0] at e0
    injection e0 with e0; injection e0 with _ e0; injection e0 with e0; injection e0 with e0; injection e0 with e0
    have q := tclass (hX.ext ix.out).ts hX.wf x
    rw [hc] at q
    subst e0; exact q)
  have CM := Lib.hid (fun W [x : IsExt w W] => mmade (h.ext x.out) c)
  rw [mN, mF] at CM
  have CK := Lib.hid (fun W [x : IsExt w W] => mmake (h.ext x.out) hp c n)
  rw [mo, mi, m0] at CK
  have CP := Lib.hid (fun W => pplace W at_ true)
  rw [if_pos rfl] at CP
  have HF := Lib.hid h.lt
  have HR := Lib.hid hr
  obtain ⟨t1, t2⟩ := hat
  have dn : decide ((n : Int) < 0) = false := decide_eq_false (by omega)
  clear h hp R hc mN mF hsz hfm mo mi m0 hr
  go_enter Tryz.func98, Tryz.ntmps98
  go_upto_region 3 with (fail)
  refine wp_name (fun w1 hW => ?_)
  have i1 : IsExt w w1 := ⟨by rw [hW]; exact ((Ext.refl w).alloc _).alloc _⟩
  have B3 : Hid (Blk w1 w.heap.size 40 #[.bool true, .int .i64 x]) := Lib.hid (by rw [hW]; exact (Blk.new w _ _).alloc _)
  have B4 : Hid (Blk w1 (w.heap.size + 1) 40 #[.bool false, .int .i64 0]) := Lib.hid (by rw [hW]; exact Blk.at_ _ _ (by simp))
  have c1 := (i1.out.below.cell (p := ⟨m, 0, none⟩) l0).trans k0
  have l1 := Nat.lt_of_lt_of_le l0 i1.out.below.size
  obtain ⟨p1, p2, p3⟩ := B3.out.rules
  have K0 := Lib.hid k0
  clear hW k0
  generalize hg : w.heap.size = g at *
  refine wp_region_ext (by kernel_rfl) (by kernel_rfl) ?_
  repeat (go_big_quiet_step ((first | (go_at_call 176; exact calls_ext (CC.out _)))))
  refine wpQuiet_nil ?_
  rintro W ⟨x', hWW⟩
  have xx : Ext w1 W := ⟨x', hWW⟩
  have i2 : IsExt w W := ⟨i1.out.trans xx⟩
  clear hWW p1 p2 p3 c1 l1 CC
  go_wp2_with fail
  refine (CM.out _).mono ?_
  rintro e w3 ⟨rfl, x3⟩
  have i3 : IsExt w w3 := ⟨i2.out.trans x3⟩
  replace B3 := Lib.hid (B3.out.ext (xx.trans x3))
  replace B4 := Lib.hid (B4.out.ext (xx.trans x3))
  clear x3 xx CM i1 i2
  go_upto_region 7 with (fail)
  have c3 := (i3.out.below.cell (p := ⟨m, 0, none⟩) (show m < w.heap.size by rw [hg]; exact l0)).trans K0.out
  have l3 := Nat.lt_of_lt_of_le (show m < w.heap.size by rw [hg]; exact l0) i3.out.below.size
  obtain ⟨p1, p2, p3⟩ := B3.out.rules
  refine wp_region_ext (by kernel_rfl) (by kernel_rfl) ?_
  repeat (go_big_quiet_step ((first | (go_at_call 191; exact calls_ext (CZ.out _)))))
  refine wpQuiet_nil ?_
  rintro W4 ⟨x', hWW⟩
  have xx : Ext w3 W4 := ⟨x', hWW⟩
  have i4 : IsExt w W4 := ⟨i3.out.trans xx⟩
  replace B3 := Lib.hid (B3.out.ext xx)
  replace B4 := Lib.hid (B4.out.ext xx)
  clear hWW p1 p2 p3 c3 l3 CZ xx i3
  go_upto_region 8 with (fail)
  have c4 := (i4.out.below.cell (p := ⟨m, 0, none⟩) (show m < w.heap.size by rw [hg]; exact l0)).trans K0.out
  have l4 := Nat.lt_of_lt_of_le (show m < w.heap.size by rw [hg]; exact l0) i4.out.below.size
  obtain ⟨p1, p2, p3⟩ := B3.out.rules
  refine wp_region_ext (by kernel_rfl) (by kernel_rfl) ?_
  repeat (go_big_quiet_step ((first | (go_at_call 180; exact calls_ext (CF.out _)))))
  refine wpQuiet_nil ?_
  rintro W5 ⟨x', hWW⟩
  have xx : Ext W4 W5 := ⟨x', hWW⟩
  have i5 : IsExt w W5 := ⟨i4.out.trans xx⟩
  replace B3 := Lib.hid (B3.out.ext xx)
  replace B4 := Lib.hid (B4.out.ext xx)
  clear hWW p1 p2 p3 c4 l4 CF xx i4
  go_wp2_with fail
  refine (CK.out W5).mono ?_
  rintro e w6 ⟨rfl, gg⟩
  obtain ⟨F1, m6, v6⟩ := gg
  obtain ⟨b3, n3⟩ := v6.blk B3.out (fun hf => by have := HF.out _ hf; omega)
  obtain ⟨b4, n4⟩ := v6.blk B4.out (fun hf => by have := HF.out _ hf; omega)
  have V6 := Lib.hid ((Mov.of_ext i5.out).trans v6)
  have M6 := Lib.hid m6
  replace B3 := Lib.hid b3
  replace B4 := Lib.hid b4
  have N3 := Lib.hid n3
  have N4 := Lib.hid n4
  clear v6 m6 b3 b4 n3 n4 CK i5
  go_wp2_with fail
  go_loopw [67] (fun jv wr => ∃ j : Nat, j ≤ n ∧ jv = .int .i64 j ∧ M wr F1 m (L j) ∧ Keep F1 w6 wr) (fun jv _ => n - (intOf jv).toNat)
  case atStart => exact ⟨0, by omega, rfl, M6.out, Keep.refl _ _⟩
  case round =>
    obtain ⟨j, hj, rfl, mj, kj⟩ := hrel
    have MJ := Lib.hid mj
    have KJ := Lib.hid kj
    by_cases hlt : j < n
    · have jI : (j : Int) < (n : Int) := by omega
      obtain ⟨p1, p2, p3⟩ := (B3.out.keep kj N3.out).rules
      have ir : IsExt wr wr := ⟨Ext.refl _⟩
      obtain ⟨q1, q2, q3, q4⟩ := HR.out j hlt
      have CG := Lib.hid (fun W [x : IsExt wr W] => mbyte (mj.ext x.out) q1)
      have CW := Lib.hid (fun W [x : IsExt wr W] => msetbyte (mj.ext x.out) q2 q3)
      rw [q4] at CW
      clear mj kj q1 q2 q3 q4
      generalize byteN ((L j).t x).B j = z at *
      go_wp2_with (first | (go_at_call 102; refine (CG.out _).mono ?_; rintro e w7 ⟨rfl, x7⟩; have i7 : IsExt wr w7 := ⟨x7⟩; clear x7))
      refine (CW.out _).mono ?_
      rintro e w8 ⟨rfl, m8, k8⟩
      have M8 := Lib.hid m8
      have K8 := Lib.hid ((KJ.out.ext i7.out).trans k8)
      clear m8 k8 CW CG MJ KJ p1 p2 p3 ir i7
      go_wp2_with fail
      go_roundw
      case rel => exact ⟨j + 1, by omega, by go_num, M8.out, K8.out⟩
      case measure => simp [intOf]; omega
    · obtain rfl : j = n := by omega
      have b4 := B4.out.keep kj N4.out
      clear mj kj B3 B4
      go_wp2_with fail
      refine (CP.out _).mono ?_
      rintro e w9 ⟨rfl, x9⟩
      obtain ⟨r1, r2, r3⟩ := (b4.ext x9).rules
      have V9 := (V6.out.trans (Mov.of_keep' KJ.out)).ext x9
      have M9 := Lib.hid (MJ.out.ext x9)
      have V := Lib.hid V9
      clear V9 x9 b4 CP
      go_wp2_with fail
      refine bodyPost_ret (v := .tuple #[.agg #[.bool true, .int .i64 at_], .bool true]) (by simp [results, Tryz.results98, go_sem, r1]) rfl ⟨rfl, F1, ?_, ?_⟩
      · exact M9.out.far (((Keep.refl (· = g + 1) w9).setCell (p := ⟨g + 1, 0, none⟩) rfl _).setCell (p := ⟨g + 1, 1, none⟩) rfl _) (fun j e hf => N4.out (e ▸ hf))
      · exact ⟨(V.out.keep.setNew (p := ⟨g + 1, 0, none⟩) (show w.heap.size ≤ g + 1 by omega) _).setNew (p := ⟨g + 1, 1, none⟩) (show w.heap.size ≤ g + 1 by omega) _, V.out.new⟩
theorem pargs33 (w : World) : Calls Tryz.prog 56 #[.int .i64 33] w fun e w' => e = .returned (.int .i64 0) ∧ w = w' := by
  go_enter Tryz.func56, Tryz.ntmps56
  go_wp2
  go_ret
  exact ⟨rfl, rfl⟩
set_option maxRecDepth 100000 in
set_option maxHeartbeats 2000000 in
theorem pa33 (h : M w F m S) (x : Int) (ro rk : Bool) (rn : Int) (P : MS)
    (hT : ∀ W, Ext w W → Calls Tryz.prog 98 #[.pointer (some ⟨m, 0, none⟩), .agg #[.bool true, .int .i64 x]] W fun e w' => e = .returned (.tuple #[.agg #[.bool ro, .int .i64 rn], .bool rk]) ∧ Goes F m P W w') :
    Calls Tryz.prog 58 #[.pointer (some ⟨m, 0, none⟩), .int .i64 33, .agg #[.bool true, .int .i64 x]] w fun e w' => e = .returned (.tuple #[.agg #[.bool ro, .int .i64 rn], .bool rk]) ∧ Goes F m P w w' := by
  have CT := Lib.hid (fun W [x : IsExt w W] => hT W x.out)
  have HF := Lib.hid h.lt
  clear h hT
  go_enter Tryz.func58, Tryz.ntmps58
  go_wp2_with fail
  go_step3
  go_wp2_with fail
  refine (CT.out _).mono ?_
  rintro e w1 ⟨rfl, F1, m1, v1⟩
  have B6 := (Blk.at_ (w := w.alloc (.cells #[.bool true, .int .i64 x] 40)) (g := w.heap.size + 1) 40 #[.bool false, .int .i64 0] (by simp))
  obtain ⟨b6, nF⟩ := v1.blk B6 (fun hf => by have := HF.out _ hf; omega)
  have V1 : Hid (Mov F F1 w w1) := Lib.hid ((Mov.of_ext (((Ext.refl w).alloc _).alloc _)).trans v1)
  have M1 := Lib.hid m1
  have NF := Lib.hid nF
  obtain ⟨q1, q2, q3⟩ := b6.rules
  clear v1 m1 CT B6 nF b6
  generalize hg : w.heap.size + 1 = g at *
  go_wp2_with fail
  rw [Exit.noGoto_ret]
  refine bodyPost_ret (v := .tuple #[.agg #[.bool ro, .int .i64 rn], .bool rk]) (by simp [results, Tryz.results58, go_sem, q1]) rfl ⟨rfl, F1, ?_, ?_⟩
  · exact M1.out.far (((Keep.refl (· = g) w1).setCell (p := ⟨g, 0, none⟩) rfl _).setCell (p := ⟨g, 1, none⟩) rfl _) (fun j e hf => NF.out (e ▸ hf))
  · exact ⟨(V1.out.keep.setNew (p := ⟨g, 0, none⟩) (show w.heap.size ≤ g by omega) _).setNew (p := ⟨g, 1, none⟩) (show w.heap.size ≤ g by omega) _, V1.out.new⟩
set_option maxRecDepth 100000 in
set_option maxHeartbeats 2000000 in
theorem pop33 (h : M w F m S) (x : Int) (hm : S.may ⟨true, x⟩ = true) (ro rk : Bool) (rn : Int) (P : MS)
    (hA : ∀ W, Ext w W → Calls Tryz.prog 58 #[.pointer (some ⟨m, 0, none⟩), .int .i64 33, .agg #[.bool true, .int .i64 x]] W fun e w' => e = .returned (.tuple #[.agg #[.bool ro, .int .i64 rn], .bool rk]) ∧ Goes F m P W w') :
    Calls Tryz.prog 27 #[.pointer (some ⟨m, 0, none⟩), .int .i64 33, .agg #[.bool true, .int .i64 x], .slice none 0 0] w fun e w' => e = .returned (.tuple #[.agg #[.bool ro, .int .i64 rn], .bool rk]) ∧ Goes F m P w w' := by
  have CM := Lib.hid (fun W [x' : IsExt w W] => mmay (h.ext x'.out) ⟨true, x⟩)
  have CA := Lib.hid (fun W [x : IsExt w W] => hA W x.out)
  have CR := Lib.hid (fun W => pargs33 W)
  rw [hm] at CM
  unfold val at CM
  have HF := Lib.hid h.lt
  clear h hm hA
  go_enter Tryz.func27, Tryz.ntmps27
  go_wp2_with fail
  go_step3
  go_wp2_with (go_at_call 56; refine (CR.out _).mono ?_; rintro e w' ⟨rfl, rfl⟩)
  refine (CM.out _).mono ?_
  rintro e w1 ⟨rfl, x1⟩
  have B6 := Lib.hid (((Blk.new w 40 #[.bool true, .int .i64 x]).alloc (.cells #[.bool false, .int .i64 0] 40)).ext x1)
  have B8 := Lib.hid ((Blk.at_ (w := w.alloc (.cells #[.bool true, .int .i64 x] 40)) (g := w.heap.size + 1) 40 #[.bool false, .int .i64 0] (by simp)).ext x1)
  have i1 : IsExt w w1 := ⟨(((Ext.refl w).alloc _).alloc _).trans x1⟩
  obtain ⟨p1, p2, p3⟩ := B6.out.rules
  clear x1 CM CR
  generalize hg : w.heap.size = g at *
  go_wp2_with fail
  go_loopw [30] (fun jv wr => jv = .int .i64 0 ∧ wr = w1) (fun _ _ => 0)
  case atStart => exact ⟨rfl, rfl⟩
  case round =>
    obtain ⟨rfl, rfl⟩ := hrel
    go_wp2_with fail
    refine (CA.out _).mono ?_
    rintro e w2 ⟨rfl, F2, m2, v2⟩
    obtain ⟨b8, n8⟩ := v2.blk B8.out (fun hf => by have := HF.out _ hf; omega)
    have V2 := Lib.hid ((Mov.of_ext i1.out).trans v2)
    have M2 := Lib.hid m2
    have N8 := Lib.hid n8
    obtain ⟨q1, q2, q3⟩ := b8.rules
    clear v2 m2 n8 CA b8 p1 p2 p3 B6 B8
    go_wp2_with fail
    rw [Exit.noGoto_ret]
    refine bodyPost_ret (v := .tuple #[.agg #[.bool ro, .int .i64 rn], .bool rk]) (by simp [results, Tryz.results27, go_sem, q1]) rfl ⟨rfl, F2, ?_, ?_⟩
    · exact M2.out.far (((Keep.refl (· = g + 1) w2).setCell (p := ⟨g + 1, 0, none⟩) rfl _).setCell (p := ⟨g + 1, 1, none⟩) rfl _) (fun j e hf => N8.out (e ▸ hf))
    · exact ⟨(V2.out.keep.setNew (p := ⟨g + 1, 0, none⟩) (show w.heap.size ≤ g + 1 by omega) _).setNew (p := ⟨g + 1, 1, none⟩) (show w.heap.size ≤ g + 1 by omega) _, V2.out.new⟩
end
end Go.Proofs.YtnhijjcplnomgaaGreat.World
namespace Go.Proofs.YtnhijjcplnomgaaGreat.World
open Go.RowKit Go.Proofs.YtnhijjcplnomgaaGreat.Plain
set_option linter.unusedVariables false
attribute [local go_sem ↓] Go.wp_at_zero Go.wp_at_succ
def T0 : MS := newS firstW 5
def T1 (c : Nat) : MS := T0.make c 0
def T2 (c k : Nat) : MS := (T1 c).make c k
structure TN (c k : Nat) : Prop where
  p0 : T0.phase = 0
  a1 : T0.makeOK c 0 = true
  a2 : T0.makeId c 0 = 23
  a3 : T0.may ⟨true, c⟩ = true
  p1 : (T1 c).phase = 0
  b1 : (T1 c).makeOK c k = true
  b2 : (T1 c).makeId c k = 24
  b3 : (T1 c).may ⟨true, c⟩ = true
  b4 : (T1 c).may ⟨false, k⟩ = true
  p2 : (T2 c k).phase = 0
  c1 : (T2 c k).hash 23 = 24
  c2 : (T2 c k).hash 24 = 25
  c3 : (c = 8 ∨ c = 9) → (T2 c k).size 23 = 0 ∧ (T2 c k).size 24 = k
  c4 : ¬ (c = 8 ∨ c = 9) → (T2 c k).size 24 = (T2 c k).size 23 + k
  c5 : (T2 c k).cls 24 = c
  c6 : (T2 c k).may ⟨true, 23⟩ = true
  c7 : (T2 c k).may ⟨true, 24⟩ = true
  c8 : -1 ≤ (T2 c k).size 23 ∧ (T2 c k).size 23 ≤ 1000
  d1 : (T2 c k).makeOK 0 0 = false
  d2 : (T2 c k).makeOK 19 0 = false
  d3 : (T2 c k).makeOK 22 0 = false
  d4 : (T2 c k).makeOK 23 0 = false
  d5 : (T2 c k).may ⟨true, 0⟩ = true
  d6 : (T2 c k).may ⟨true, 19⟩ = true
  d7 : (T2 c k).may ⟨true, 22⟩ = true
  e1 : (T2 c k).makeOK c (-1) = false
  e2 : (T2 c k).may ⟨true, c⟩ = true
  e3 : (T2 c k).may ⟨false, -1⟩ = true
theorem tn (c k : Nat) (hc : 3 ≤ c) (hc2 : c < 19) (hk : k < 30) : TN c k := by
  have h : ∀ q : Fin 16, ∀ k : Fin 30, T0.phase = 0 ∧ T0.makeOK ((3 + q.1 : Nat) : Int) 0 = true ∧ T0.makeId ((3 + q.1 : Nat) : Int) 0 = 23 ∧ T0.may ⟨true, ((3 + q.1 : Nat) : Int)⟩ = true ∧ (T1 (3 + q.1)).phase = 0 ∧ (T1 (3 + q.1)).makeOK ((3 + q.1 : Nat) : Int) k.1 = true ∧ (T1 (3 + q.1)).makeId ((3 + q.1 : Nat) : Int) k.1 = 24 ∧ (T1 (3 + q.1)).may ⟨true, ((3 + q.1 : Nat) : Int)⟩ = true ∧ (T1 (3 + q.1)).may ⟨false, k.1⟩ = true ∧ (T2 (3 + q.1) k).phase = 0 ∧ (T2 (3 + q.1) k).hash 23 = 24 ∧ (T2 (3 + q.1) k).hash 24 = 25 ∧ ((3 + q.1 = 8 ∨ 3 + q.1 = 9) → (T2 (3 + q.1) k).size 23 = 0 ∧ (T2 (3 + q.1) k).size 24 = k.1) ∧ (¬ (3 + q.1 = 8 ∨ 3 + q.1 = 9) → (T2 (3 + q.1) k).size 24 = (T2 (3 + q.1) k).size 23 + k.1) ∧ (T2 (3 + q.1) k).cls 24 = ((3 + q.1 : Nat) : Int) ∧ (T2 (3 + q.1) k).may ⟨true, 23⟩ = true ∧ (T2 (3 + q.1) k).may ⟨true, 24⟩ = true ∧ (-1 ≤ (T2 (3 + q.1) k).size 23 ∧ (T2 (3 + q.1) k).size 23 ≤ 1000) ∧ (T2 (3 + q.1) k).makeOK 0 0 = false ∧ (T2 (3 + q.1) k).makeOK 19 0 = false ∧ (T2 (3 + q.1) k).makeOK 22 0 = false ∧ (T2 (3 + q.1) k).makeOK 23 0 = false ∧ (T2 (3 + q.1) k).may ⟨true, 0⟩ = true ∧ (T2 (3 + q.1) k).may ⟨true, 19⟩ = true ∧ (T2 (3 + q.1) k).may ⟨true, 22⟩ = true ∧ (T2 (3 + q.1) k).makeOK ((3 + q.1 : Nat) : Int) (-1) = false ∧ (T2 (3 + q.1) k).may ⟨true, ((3 + q.1 : Nat) : Int)⟩ = true ∧ (T2 (3 + q.1) k).may ⟨false, -1⟩ = true := by decide +kernel
  obtain ⟨q, rfl⟩ : ∃ q, c = 3 + q := ⟨c - 3, by omega⟩
  obtain ⟨h1, h2, h3, h4, h5, h6, h7, h8, h9, h10, h11, h12, h13, h14, h15, h16, h17, h18, h19, h20, h21, h22, h23, h24, h25, h26, h27, h28⟩ := h ⟨q, by omega⟩ ⟨k, hk⟩
  exact ⟨h1, h2, h3, h4, h5, h6, h7, h8, h9, h10, h11, h12, h13, h14, h15, h16, h17, h18, h19, h20, h21, h22, h23, h24, h25, h26, h27, h28⟩
structure T18 : Prop where
  a : T0.phase = 0
  b : T0.may ⟨false, 7⟩ = true
  c : T0.may ⟨true, 7⟩ = true
  d : T0.makeOK 7 0 = true
  e : T0.makeId 7 0 = 23
theorem t18 : T18 := by
  have h : T0.phase = 0 ∧ T0.may ⟨false, 7⟩ = true ∧ T0.may ⟨true, 7⟩ = true ∧ T0.makeOK 7 0 = true ∧ T0.makeId 7 0 = 23 := by decide +kernel
  exact ⟨h.1, h.2.1, h.2.2.1, h.2.2.2.1, h.2.2.2.2⟩
section
variable {w w' w2 : World} {F F' F2 : Nat → Prop} {m : Nat}
set_option maxRecDepth 100000 in
set_option maxHeartbeats 1000000 in
theorem awake18 (w : World) : Calls Tryz.prog 28 #[] w fun e w' => e = .returned (.bool true) ∧ Ext w w' := by
  have HF := Lib.hid (@first_ w)
  have AR : Hid (∀ W, Calls Tryz.prog 56 #[.int .i64 25] W fun e w' => e = .returned (.int .i64 2) ∧ W = w') := Lib.hid (fun W => pargs W 25 (by omega))
  go_enter Tryz.func28, Tryz.ntmps28
  go_wp2_with fail
  refine HF.out.mono ?_
  clear HF
  rintro e w1 ⟨x, rfl, b1, x1⟩
  have CN := Lib.hid (objnew (W := firstW) (b1.at_ (nums_of_check first_check)) first_check rfl 5)
  have X1 := Lib.hid x1
  clear b1 x1
  generalize cellsW firstW x = cs at *
  go_wp2_with fail
  refine CN.out.mono ?_
  rintro e w2 ⟨m, F, rfl, m2, hF, x2⟩
  have X2 := Lib.hid (X1.out.trans x2)
  have FL : Hid (∀ k, F k → w.heap.size ≤ k) := Lib.hid (fun k hk => by have := hF k hk; have := X1.out.below.size; omega)
  have m2 : M w2 F m T0 := m2
  have TT := t18
  have C1 := Lib.hid (fun W [x : IsExt w2 W] => pop0r (m2.ext x.out) 22 (.inr (.inl rfl)) false 7 (.inr rfl) TT.b false true 7 (fun W' _ => pa22n W' _ 7))
  have C2 : Hid (∀ W [x : IsExt w2 W], Calls Tryz.prog 27 #[.pointer (some ⟨m, 0, none⟩), .int .i64 26, .agg #[.bool true, .int .i64 7], .slice none 0 0] W fun e w' => e = .returned (.tuple #[.agg #[.bool true, .int .i64 23], .bool true]) ∧ Goes F m (T0.make 7 0) W w') := Lib.hid (fun W x => pop0 (m2.ext x.out) 26 (.inr (.inr (.inr rfl))) true 7 (.inl rfl) TT.c true true 23 (fun W' x' => by
    have q := pa26 ((m2.ext x.out).ext x') (by rw [TT.a]; decide) 7
    rw [TT.d, TT.e] at q
    exact q))
  have i2 : IsExt w2 w2 := ⟨Ext.refl _⟩
  have LT := Lib.hid m2.lt
  clear m2 hF x2 CN X1 TT
  go_wp2_with fail
  refine (C1.out _).mono ?_
  rintro e w3 ⟨rfl, x3⟩
  have i3 : IsExt w2 w3 := ⟨x3⟩
  clear x3 C1 i2
  go_wp2_with fail
  refine calls_name (fun w4 hW => ?_)
  have i4 : IsExt w2 w4 := ⟨by rw [hW]; exact i3.out.alloc _⟩
  have b3 : Blk w4 w3.heap.size 40 #[.bool false, .int .i64 7] := by rw [hW]; exact Blk.new _ _ _
  have l3 : w2.heap.size ≤ w3.heap.size := i3.out.below.size
  clear hW i3
  generalize w3.heap.size = g3 at *
  refine (C2.out _).mono ?_
  rintro e w5 ⟨rfl, F5, m5, v5⟩
  obtain ⟨b5, nF⟩ := v5.blk b3 (fun hf => by have := LT.out _ hf; omega)
  have X5 : Hid (Ext w w5) := Lib.hid (Ext.of_below (Keep.below (X2.out.trans i4.out).below v5.keep (X2.out.trans i4.out).below.size (fun i hi h => by have := FL.out i h; omega)))
  obtain ⟨p1, p2, p3⟩ := b5.rules
  clear m5 v5 C2 i4 b3 b5 nF X2 FL LT
  go_wp2_with (go_at_call 56; refine (AR.out _).mono ?_; rintro e w' ⟨rfl, rfl⟩)
  go_ret
  exact ⟨rfl, X5.out.alloc _⟩
end
end Go.Proofs.YtnhijjcplnomgaaGreat.World
namespace Go.Proofs.YtnhijjcplnomgaaGreat.World
open Go.RowKit Go.Proofs.YtnhijjcplnomgaaGreat.Plain
set_option linter.unusedVariables false
namespace MS
section
variable {S : MS} {x : PT}
theorem put_new (j : Int) (v : PV) : (S.add x).put S.L.length j v = S.add { x with F := x.F.set j.toNat v } := by
  have e : (S.add x).t S.L.length = x := t_new
  unfold put
  rw [e]
  unfold setT add
  simp [List.set_append]
theorem putB_new (j z : Int) : (S.add x).putB S.L.length j z = S.add { x with B := setB x.B j.toNat z } := by
  have e : (S.add x).t S.L.length = x := t_new
  unfold putB
  rw [e]
  unfold setT add
  simp [List.set_append]
theorem fmt_new (w : S.Wf) : (S.add x).fmt S.L.length = x.fmt := by unfold fmt; rw [has_add_new w, if_pos rfl, t_new]
theorem size_new (w : S.Wf) : (S.add x).size S.L.length = (x.F.length : Int) + (x.B.size : Int) := by unfold size; rw [has_add_new w, if_pos rfl, t_new]
theorem field_new (j : Int) : (S.add x).field S.L.length j = vAt x.F j.toNat := by unfold field; rw [t_new]
end
end MS
theorem bytes_ext {A B : ByteArray} (hs : A.size = B.size) (h : ∀ q, q < B.size → byteN A q = byteN B q) : A = B := by
  have e : bNums A = bNums B := by
    unfold bNums
    rw [hs]
    exact List.map_congr_left (fun q hq => h q (List.mem_range.1 hq))
  rw [← bNums_str A, e, bNums_str]
/-! ### an Array and its copy -/
def arW (F : List PV) : PW := firstW.add 7 1 F ByteArray.empty
def numsF (F : List PV) : Prop := ∀ j, j < F.length → ∃ z : Int, vAt F j = num z ∧ -1000 ≤ z ∧ z ≤ 5000
theorem vAt_nil (F : List PV) (j : Nat) (h : ¬ j < F.length) : vAt F j = dV := by unfold vAt; rw [List.getD_eq_getElem?_getD, List.getElem?_eq_none (by omega)]; rfl
theorem arW_check {F : List PV} (hF : numsF F) (hl : F.length ≤ 40) : checkB (arW F) = true := by
  refine check_add first_check rfl (by decide) (by decide) (by decide) (by decide +kernel) ?_
  unfold shapeB
  rw [if_neg (show ¬ (1 : Int) = 3 by decide), if_pos (.inl rfl)]
  have e : fldsB (firstW.L.length + 1) F = true := by
    unfold fldsB
    rw [allTo_iff]
    intro j hj
    obtain ⟨z, hz, h1, h2⟩ := hF j hj
    rw [hz]
    exact MS.fits_small ⟨h1, h2⟩
  show (decide (ByteArray.empty.size = 0) && (decide (F.length ≤ 60) && fldsB _ F)) = true
  rw [e, decide_eq_true (show F.length ≤ 60 by omega)]; rfl
theorem arW_first (F : List PV) (i : Nat) (hi : i < 23) : tAt (arW F).L i = firstT i := by
  have e : firstW.L.length = 23 := rfl
  unfold arW
  rw [tAt_add _ _ _ _ _ _ (by omega)]
  exact first_at i hi
def arS (F : List PV) : MS := newS (arW F) 5
theorem ar_std {F : List PV} (hF : numsF F) (hl : F.length ≤ 40) : (arS F).Std := std_new (arW_check hF hl) (arW_first F) 5
theorem ar_len (F : List PV) : (arS F).L.length = 24 := by show (arW F).L.length = 24; unfold arW; rw [len_add]; rfl
theorem ar_t (F : List PV) : (arS F).t 23 = ⟨7, 1, 24, false, F, ByteArray.empty⟩ := by
  show tAt (arW F).L firstW.L.length = _
  unfold arW
  rw [new_at]; rfl
theorem new_has {W : PW} (h : W.L.length = 24) : (newS W 5).has 23 = true := by
  show (decide (0 ≤ (23 : Int) ∧ (23 : Int) < ((newS W 5).L.length : Nat)) && !((List.replicate W.L.length false).getD (23 : Int).toNat false)) = true
  have e : (List.replicate W.L.length false).getD (23 : Int).toNat false = false := by
    rw [List.getD_eq_getElem?_getD, List.getElem?_replicate]; split <;> rfl
  have hl : (newS W 5).L.length = 24 := h
  rw [e, hl]; rfl
theorem ar_has (F : List PV) : (arS F).has 23 = true := new_has (ar_len F)
theorem ar_fmt (F : List PV) : (arS F).fmt 23 = 1 := by unfold MS.fmt; rw [ar_has, if_pos rfl, ar_t]
theorem ar_size (F : List PV) : (arS F).size 23 = F.length := by
  unfold MS.size; rw [ar_has, if_pos rfl, ar_t]
  show (F.length : Int) + ((ByteArray.empty.size : Nat) : Int) = _
  have : ByteArray.empty.size = 0 := rfl
  rw [this]; omega
theorem ar_cls (F : List PV) : (arS F).cls 23 = 7 := by unfold MS.cls; rw [ar_has, if_pos rfl, ar_t]
theorem ar_get (F : List PV) (j : Nat) (hj : j < F.length) : (arS F).get 23 j = vAt F j := by
  unfold MS.get MS.isField
  rw [ar_has, ar_fmt, ar_size, decide_eq_true (show 0 ≤ (j : Int) ∧ (j : Int) < (F.length : Int) by omega)]
  show (if true = true then _ else _) = _
  rw [if_pos rfl]
  unfold MS.field
  rw [ar_t, Int.toNat_natCast]
def cpF (F : List PV) (i : Nat) : List PV := F.take i ++ List.replicate (F.length - i) MS.nilV
theorem cpF_len (F : List PV) (i : Nat) (h : i ≤ F.length) : (cpF F i).length = F.length := by unfold cpF; simp; omega
theorem cpF_at (F : List PV) (i j : Nat) (h : i ≤ j) (hj : j < F.length) : vAt (cpF F i) j = MS.nilV := by
  unfold vAt cpF
  rw [List.getD_eq_getElem?_getD, List.getElem?_append_right (by simp; omega), List.getElem?_replicate, if_pos (by simp; omega)]; rfl
theorem cpF_succ (F : List PV) (i : Nat) (h : i < F.length) : (cpF F i).set i (vAt F i) = cpF F (i + 1) := by
  apply List.ext_getElem?
  intro q
  have hl := cpF_len F i (by omega)
  rw [List.getElem?_set]
  unfold cpF at *
  by_cases e : i = q
  · subst e
    rw [if_pos rfl, if_pos (by omega), List.getElem?_append_left (by simp; omega), List.getElem?_take_of_lt (by omega)]
    unfold vAt
    rw [List.getD_eq_getElem?_getD, List.getElem?_eq_getElem h]; rfl
  · rw [if_neg e]
    by_cases h2 : q < i
    · rw [List.getElem?_append_left (by simp; omega), List.getElem?_append_left (by simp; omega), List.getElem?_take_of_lt h2, List.getElem?_take_of_lt (by omega)]
    · rw [List.getElem?_append_right (by simp; omega), List.getElem?_append_right (by simp; omega), List.getElem?_replicate, List.getElem?_replicate]
      simp only [List.length_take]
      by_cases h3 : q < F.length
      · rw [if_pos (by omega), if_pos (by omega)]
      · rw [if_neg (by omega), if_neg (by omega)]
def arL (F : List PV) (i : Nat) : MS := (arS F).add ⟨7, 1, 25, false, cpF F i, ByteArray.empty⟩
theorem ar_make {F : List PV} (hF : numsF F) (hl : F.length ≤ 40) : (arS F).makeOK 7 F.length = true ∧ (arS F).makeId 7 F.length = 24 ∧ (arS F).make 7 F.length = arL F 0 ∧ (arS F).madeN 7 = 0 ∧ (arS F).madeF 7 = 1 := by
  have st := ar_std hF hl
  obtain ⟨c1, c2, c3⟩ := st.cls 7 (by omega) (by omega)
  have c1 : (arS F).isClass 7 = true := c1
  have c2 : (arS F).madeN 7 = 0 := c2
  have c3 : (arS F).madeF 7 = 1 := c3
  have la : (arS F).last < 3000 := by show firstW.last + 1 < 3000; decide
  have ok : (arS F).makeOK 7 F.length = true := by
    unfold MS.makeOK
    rw [c1, c2, c3, if_neg (by decide), decide_eq_true la, decide_eq_true (show 0 ≤ (F.length : Int) by omega), decide_eq_true (show (F.length : Int) ≤ 60 - 0 by omega)]; rfl
  have hz : ((arS F).makeSz 7 F.length).toNat = F.length := by unfold MS.makeSz; rw [c3, if_neg (by decide), c2]; omega
  refine ⟨ok, by unfold MS.makeId; rw [if_pos ok, ar_len]; rfl, ?_, c2, c3⟩
  unfold MS.make arL
  rw [if_pos ok, c3, hz]
  have e : MS.newT 7 1 F.length ((arS F).last + 1) = ⟨7, 1, 25, false, cpF F 0, ByteArray.empty⟩ := by
    unfold MS.newT cpF
    rw [if_neg (by decide)]
    rfl
  rw [e]
theorem ar_step {F : List PV} (hF : numsF F) (hl : F.length ≤ 40) (i : Nat) (hi : i < F.length) : (arL F i).phase ≠ 1 ∧ (arL F i).set 24 i ((arL F i).get 23 i) = arL F (i + 1) := by
  have st := ar_std hF hl
  have e24 : ((arS F).L.length : Int) = 24 := by rw [ar_len]; rfl
  have hg : (arL F i).get 23 i = vAt F i := by
    unfold arL
    rw [MS.get_add st.wf (by rw [e24]; decide), ar_get F i hi]
  have hh : (arL F i).has 24 = true := by rw [← e24]; exact MS.has_add_new st.wf
  have hfm : (arL F i).fmt 24 = 1 := by rw [← e24]; exact MS.fmt_new st.wf
  have hsz : (arL F i).size 24 = F.length := by
    rw [← e24]
    refine (MS.size_new st.wf).trans ?_
    show ((cpF F i).length : Int) + ((ByteArray.empty.size : Nat) : Int) = _
    rw [cpF_len F i (by omega)]
    have : ByteArray.empty.size = 0 := rfl
    rw [this]; omega
  have hfd : (arL F i).isField 24 i = true := by
    unfold MS.isField
    rw [hh, hfm, hsz, decide_eq_true (show 0 ≤ (i : Int) ∧ (i : Int) < (F.length : Int) by omega)]; rfl
  obtain ⟨z, hz, z1, z2⟩ := hF i hi
  have hv : (arL F i).may (vAt F i) = true := by rw [hz]; exact MS.fits_small ⟨z1, z2⟩
  have nc : (((i : Int) ≠ 3 ∧ (i : Int) ≠ 4) ∨ (arL F i).isClass 24 = false) := by
    by_cases h34 : i = 3 ∨ i = 4
    · refine .inr ?_
      by_cases h5 : 5 ≤ F.length
      · have e4 : (arL F i).field 24 4 = MS.nilV := by
          have q := MS.field_new (S := arS F) (x := ⟨7, 1, 25, false, cpF F i, ByteArray.empty⟩) 4
          rw [e24] at q
          refine q.trans ?_
          exact cpF_at F i 4 (by omega) (by omega)
        unfold MS.isClass
        rw [e4, show MS.fmtOK MS.nilV = false from by decide]
        simp
      · unfold MS.isClass
        rw [hsz, decide_eq_false (show ¬ (5 : Int) ≤ (F.length : Int) by omega)]
        simp
    · exact .inl ⟨by omega, by omega⟩
  have ok := MS.setOK_of hfd hv nc
  refine ⟨by show (arS F).phase ≠ 1; rw [st.ph]; decide, ?_⟩
  rw [hg, MS.set_put ok]
  have q := MS.put_new (S := arS F) (x := ⟨7, 1, 25, false, cpF F i, ByteArray.empty⟩) i (vAt F i)
  rw [e24, Int.toNat_natCast] at q
  refine q.trans ?_
  show (arS F).add ⟨7, 1, 25, false, (cpF F i).set i (vAt F i), ByteArray.empty⟩ = _
  rw [cpF_succ F i hi]; rfl
/-- an Array and its copy, what is told of them, what becomes of them -/
structure Cp (T : MS) (t : PT) (fm : Int) : Prop where
  h23 : T.has 23 = true
  f23 : T.fmt 23 = fm
  t23 : T.t 23 = t
theorem ar_end {F : List PV} (hF : numsF F) (hl : F.length ≤ 40) : Cp (arL F F.length) ⟨7, 1, 24, false, F, ByteArray.empty⟩ 1 ∧ (arL F F.length).has 24 = true ∧ (arL F F.length).fmt 24 = 1 ∧ (arL F F.length).t 24 = ⟨7, 1, 25, false, F, ByteArray.empty⟩ ∧ (arL F F.length).size 24 = F.length ∧ (arL F F.length).phase ≠ 1 ∧
    (0 < F.length → (arL F F.length).setOK 24 0 (num 7) = true ∧ Cp ((arL F F.length).set 24 0 (num 7)) ⟨7, 1, 24, false, F, ByteArray.empty⟩ 1) := by
  have st := ar_std hF hl
  have e24 : ((arS F).L.length : Int) = 24 := by rw [ar_len]; rfl
  have eF : cpF F F.length = F := by unfold cpF; simp
  have hh : (arL F F.length).has 24 = true := by rw [← e24]; exact MS.has_add_new st.wf
  have hfm : (arL F F.length).fmt 24 = 1 := by rw [← e24]; exact MS.fmt_new st.wf
  have ht : (arL F F.length).t 24 = ⟨7, 1, 25, false, F, ByteArray.empty⟩ := by
    rw [← e24]
    refine MS.t_new.trans ?_
    rw [eF]
  have hsz : (arL F F.length).size 24 = F.length := by
    unfold MS.size
    rw [hh, if_pos rfl, ht]
    show (F.length : Int) + ((ByteArray.empty.size : Nat) : Int) = _
    have : ByteArray.empty.size = 0 := rfl
    rw [this]; omega
  have h23 : (arL F F.length).has 23 = true := MS.has_add_old st.wf (ar_has F)
  have f23 : (arL F F.length).fmt 23 = 1 := (MS.fmt_old st.wf (ar_has F)).trans (ar_fmt F)
  have t23 : (arL F F.length).t 23 = ⟨7, 1, 24, false, F, ByteArray.empty⟩ := (MS.t_old (by rw [ar_len]; decide)).trans (ar_t F)
  refine ⟨⟨h23, f23, t23⟩, hh, hfm, ht, hsz, by show (arS F).phase ≠ 1; rw [st.ph]; decide, fun h0 => ?_⟩
  have hfd : (arL F F.length).isField 24 0 = true := by
    unfold MS.isField
    rw [hh, hfm, hsz, decide_eq_true (show 0 ≤ (0 : Int) ∧ (0 : Int) < (F.length : Int) by omega)]; rfl
  have ok := MS.setOK_of (v := num 7) hfd (MS.fits_small (n := 7) (by omega)) (.inl ⟨by decide, by decide⟩)
  have hi : 0 ≤ (24 : Int) ∧ (24 : Int) < (arL F F.length).L.length := by
    obtain ⟨a, b⟩ := MS.has_lt hh
    exact ⟨a, b⟩
  refine ⟨ok, ?_⟩
  rw [MS.set_put ok]
  refine ⟨by rw [MS.has_put]; exact h23, by rw [MS.fmt_put hi]; exact f23, ?_⟩
  rw [MS.t_put hi, if_neg (by decide)]; exact t23
/-! ### a text and its copy -/
def txW (B : ByteArray) : PW := firstW.add 8 3 [] B
theorem txW_check {B : ByteArray} (hl : B.size ≤ 40) : checkB (txW B) = true := by
  refine check_add first_check rfl (by decide) (by decide) (by decide) (by decide +kernel) ?_
  unfold shapeB
  rw [if_pos rfl]
  show (decide (([] : List PV).length = 0) && decide (B.size ≤ 200)) = true
  rw [decide_eq_true (show B.size ≤ 200 by omega)]; rfl
theorem txW_first (B : ByteArray) (i : Nat) (hi : i < 23) : tAt (txW B).L i = firstT i := by
  have e : firstW.L.length = 23 := rfl
  unfold txW
  rw [tAt_add _ _ _ _ _ _ (by omega)]
  exact first_at i hi
def txS (B : ByteArray) : MS := newS (txW B) 5
theorem tx_std {B : ByteArray} (hl : B.size ≤ 40) : (txS B).Std := std_new (txW_check hl) (txW_first B) 5
theorem tx_len (B : ByteArray) : (txS B).L.length = 24 := by show (txW B).L.length = 24; unfold txW; rw [len_add]; rfl
theorem tx_t (B : ByteArray) : (txS B).t 23 = ⟨8, 3, 24, false, [], B⟩ := by
  show tAt (txW B).L firstW.L.length = _
  unfold txW
  rw [new_at]; rfl
theorem tx_has (B : ByteArray) : (txS B).has 23 = true := new_has (tx_len B)
theorem tx_fmt (B : ByteArray) : (txS B).fmt 23 = 3 := by unfold MS.fmt; rw [tx_has, if_pos rfl, tx_t]
theorem tx_size (B : ByteArray) : (txS B).size 23 = B.size := by
  unfold MS.size; rw [tx_has, if_pos rfl, tx_t]
  show ((([] : List PV).length : Nat) : Int) + (B.size : Int) = _
  simp
theorem tx_cls (B : ByteArray) : (txS B).cls 23 = 8 := by unfold MS.cls; rw [tx_has, if_pos rfl, tx_t]
def cpB (B : ByteArray) : Nat → ByteArray
  | 0 => strOfNums (List.replicate B.size 0)
  | i + 1 => setB (cpB B i) i (byteN B i)
theorem cpB_size (B : ByteArray) : ∀ i, (cpB B i).size = B.size
  | 0 => by unfold cpB; rw [strOfNums_size, List.length_replicate]
  | i + 1 => by unfold cpB; rw [setB_size]; exact cpB_size B i
theorem cpB_at (B : ByteArray) : ∀ i, i ≤ B.size → ∀ q, q < i → byteN (cpB B i) q = byteN B q
  | 0 => fun _ q hq => absurd hq (by omega)
  | i + 1 => fun hi q hq => by
    unfold cpB
    rw [byteN_setB _ _ _ _ (byteN_in B i) (by rw [cpB_size]; omega) (by rw [cpB_size]; omega)]
    by_cases e : q = i
    · rw [if_pos e, e]
    · rw [if_neg e]; exact cpB_at B i (by omega) q (by omega)
theorem cpB_end (B : ByteArray) : cpB B B.size = B := bytes_ext (cpB_size B _) (fun q hq => cpB_at B _ (Nat.le_refl _) q hq)
def txL (B : ByteArray) (i : Nat) : MS := (txS B).add ⟨8, 3, 25, false, [], cpB B i⟩
theorem tx_make {B : ByteArray} (hl : B.size ≤ 40) : (txS B).makeOK 8 B.size = true ∧ (txS B).makeId 8 B.size = 24 ∧ (txS B).make 8 B.size = txL B 0 ∧ (txS B).madeN 8 = 0 ∧ (txS B).madeF 8 = 3 := by
  have st := tx_std hl
  obtain ⟨c1, c2, c3⟩ := st.cls 8 (by omega) (by omega)
  have c1 : (txS B).isClass 8 = true := c1
  have c2 : (txS B).madeN 8 = 0 := c2
  have c3 : (txS B).madeF 8 = 3 := c3
  have la : (txS B).last < 3000 := by show firstW.last + 1 < 3000; decide
  have ok : (txS B).makeOK 8 B.size = true := by
    unfold MS.makeOK
    rw [c1, c3, if_pos rfl, decide_eq_true la, decide_eq_true (show 0 ≤ (B.size : Int) by omega), decide_eq_true (show (B.size : Int) ≤ 200 by omega)]; rfl
  have hz : ((txS B).makeSz 8 B.size).toNat = B.size := by unfold MS.makeSz; rw [c3, if_pos rfl]; omega
  refine ⟨ok, by unfold MS.makeId; rw [if_pos ok, tx_len]; rfl, ?_, c2, c3⟩
  unfold MS.make txL
  rw [if_pos ok, c3, hz]
  have e : MS.newT 8 3 B.size ((txS B).last + 1) = ⟨8, 3, 25, false, [], cpB B 0⟩ := by
    unfold MS.newT
    rw [if_pos rfl]
    rfl
  rw [e]
theorem tx_isB {B : ByteArray} (hl : B.size ≤ 40) (i q : Nat) (hq : q < B.size) : (txL B i).isByte 23 q = true ∧ (txL B i).isByte 24 q = true := by
  have st := tx_std hl
  have e24 : ((txS B).L.length : Int) = 24 := by rw [tx_len]; rfl
  have hh : (txL B i).has 24 = true := by rw [← e24]; exact MS.has_add_new st.wf
  have hfm : (txL B i).fmt 24 = 3 := by rw [← e24]; exact MS.fmt_new st.wf
  have hsz : (txL B i).size 24 = B.size := by
    rw [← e24]
    refine (MS.size_new st.wf).trans ?_
    show ((([] : List PV).length : Nat) : Int) + ((cpB B i).size : Int) = _
    rw [cpB_size]; simp
  have h23 : (txL B i).has 23 = true := MS.has_add_old st.wf (tx_has B)
  have f23 : (txL B i).fmt 23 = 3 := (MS.fmt_old st.wf (tx_has B)).trans (tx_fmt B)
  have s23 : (txL B i).size 23 = B.size := (MS.size_old st.wf (tx_has B)).trans (tx_size B)
  constructor
  · unfold MS.isByte
    rw [h23, f23, s23, decide_eq_true (show 0 ≤ (q : Int) ∧ (q : Int) < (B.size : Int) by omega)]; rfl
  · unfold MS.isByte
    rw [hh, hfm, hsz, decide_eq_true (show 0 ≤ (q : Int) ∧ (q : Int) < (B.size : Int) by omega)]; rfl
theorem tx_step {B : ByteArray} (hl : B.size ≤ 40) (i : Nat) (hi : i < B.size) : (txL B i).isByte 23 i = true ∧ (txL B i).isByte 24 i = true ∧ (0 ≤ byteN ((txL B i).t 23).B i ∧ byteN ((txL B i).t 23).B i ≤ 255) ∧ (txL B i).putB 24 i (byteN ((txL B i).t 23).B i) = txL B (i + 1) := by
  obtain ⟨b1, b2⟩ := tx_isB hl i i hi
  have e24 : ((txS B).L.length : Int) = 24 := by rw [tx_len]; rfl
  refine ⟨b1, b2, byteN_in _ _, ?_⟩
  have t23 : (txL B i).t 23 = ⟨8, 3, 24, false, [], B⟩ := (MS.t_old (by rw [tx_len]; decide)).trans (tx_t B)
  rw [t23]
  have q := MS.putB_new (S := txS B) (x := ⟨8, 3, 25, false, [], cpB B i⟩) i (byteN B i)
  rw [e24, Int.toNat_natCast] at q
  exact q
theorem tx_end {B : ByteArray} (hl : B.size ≤ 40) : Cp (txL B B.size) ⟨8, 3, 24, false, [], B⟩ 3 ∧ (txL B B.size).has 24 = true ∧ (txL B B.size).fmt 24 = 3 ∧ (txL B B.size).t 24 = ⟨8, 3, 25, false, [], B⟩ ∧ (txL B B.size).size 24 = B.size ∧
    (0 < B.size → (txL B B.size).isByte 24 0 = true ∧ Cp ((txL B B.size).putB 24 0 7) ⟨8, 3, 24, false, [], B⟩ 3) := by
  have st := tx_std hl
  have e24 : ((txS B).L.length : Int) = 24 := by rw [tx_len]; rfl
  have hh : (txL B B.size).has 24 = true := by rw [← e24]; exact MS.has_add_new st.wf
  have hfm : (txL B B.size).fmt 24 = 3 := by rw [← e24]; exact MS.fmt_new st.wf
  have ht : (txL B B.size).t 24 = ⟨8, 3, 25, false, [], B⟩ := by
    rw [← e24]
    refine MS.t_new.trans ?_
    rw [cpB_end]
  have hsz : (txL B B.size).size 24 = B.size := by
    unfold MS.size
    rw [hh, if_pos rfl, ht]
    show ((([] : List PV).length : Nat) : Int) + (B.size : Int) = _
    simp
  have h23 : (txL B B.size).has 23 = true := MS.has_add_old st.wf (tx_has B)
  have f23 : (txL B B.size).fmt 23 = 3 := (MS.fmt_old st.wf (tx_has B)).trans (tx_fmt B)
  have t23 : (txL B B.size).t 23 = ⟨8, 3, 24, false, [], B⟩ := (MS.t_old (by rw [tx_len]; decide)).trans (tx_t B)
  have hi : 0 ≤ (24 : Int) ∧ (24 : Int) < (txL B B.size).L.length := by
    obtain ⟨a, b⟩ := MS.has_lt hh
    exact ⟨a, b⟩
  refine ⟨⟨h23, f23, t23⟩, hh, hfm, ht, hsz, fun h0 => ⟨(tx_isB hl B.size 0 h0).2, ⟨by rw [MS.has_putB]; exact h23, by rw [MS.fmt_putB hi]; exact f23, ?_⟩⟩⟩
  rw [MS.t_putB hi, if_neg (by decide)]; exact t23
end Go.Proofs.YtnhijjcplnomgaaGreat.World
