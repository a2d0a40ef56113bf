/-
  Contracts of package object's Final and Byte; memory.Thing.
-/
import Derived.Test.YtnhijjcplnomgaaGreatSetup
import Derived.Test.YtnhijjcplnomgaaGreatCodeGet
namespace Go.Proofs.YtnhijjcplnomgaaGreat.World
open Go.RowKit Go.Proofs.YtnhijjcplnomgaaGreat.Plain
set_option linter.unusedVariables false
attribute [local go_sem ↓] Go.wp_at_zero Go.wp_at_succ
namespace MS
def final (S : MS) (i : Int) : Bool := S.has i && (S.t i).fin
end MS
section
variable {w w' w2 : World} {F F' F2 : Nat → Prop} {m : Nat} {S S' : MS} {X : MX}
set_option maxRecDepth 100000 in
set_option maxHeartbeats 1000000 in
theorem tfinal (h : TsAt w F S X) (wf : S.Wf) (i : Int) : Calls Tryz.prog 179 #[.pointer (some ⟨X.bt, 0, none⟩), .int .i64 i] w fun e w' => e = .returned (.bool (S.final i)) ∧ Ext w w' := by
  have E : Hid (S.final i = (S.has i && (tAt S.L i.toNat).fin)) := Lib.hid rfl
  have C := Lib.hid (thas h wf i)
  have HH := Lib.hid h
  have hl := @MS.has_lt S i
  clear h
  go_enter Tryz.func179, Tryz.ntmps179
  go_wp2_with fail
  refine C.out.mono ?_
  clear C
  rintro e w2 ⟨rfl, x2⟩
  have h2 := HH.out.ext x2
  cases hb : S.has i with
  | false =>
    rw [hb, Bool.false_and] at E
    clear h2 HH hl
    go_wp2
    go_ret
    exact ⟨ret_bool (by rw [E.out]), x2⟩
  | true =>
    rw [hb, Bool.true_and] at E
    obtain ⟨g1, g2⟩ := hl hb
    obtain ⟨k, rfl⟩ := Int.eq_ofNat_of_zero_le g1
    rw [Int.toNat_natCast] at E
    obtain ⟨g, cap, e1, hg, c0, c1, c2, c3, c4, c5, _, _⟩ := h2.thing k (by omega)
    obtain ⟨q1, q2, q3⟩ := h2.bt.rules
    rw [e1] at q1
    clear h2 HH e1 hl
    generalize tAt S.L k = t at *
    generalize S.L.length = n at *
    generalize X.bt = bt at *
    generalize X.fs k = fk at *
    have X2 := Lib.hid x2
    clear x2
    go_wp2
    go_ret
    exact ⟨ret_bool (by rw [E.out]), X2.out⟩
set_option maxRecDepth 100000 in
set_option maxHeartbeats 1000000 in
theorem tbyte (h : TsAt w F S X) (k l : Nat) (hk : k < S.L.length) (hl : l < (tAt S.L k).B.size) (hn : S.L.length ≤ 1000000) (hm : (tAt S.L k).B.size ≤ 1000000) : Calls Tryz.prog 175 #[.pointer (some ⟨X.bt, 0, none⟩), .int .i64 k, .int .i64 l] w fun e w' => e = .returned (.int .i64 (byteN (tAt S.L k).B l)) ∧ Ext w w' := by
  obtain ⟨g, cap, e1, hg, c0, c1, c2, c3, c4, c5, _, _⟩ := h.thing k hk
  obtain ⟨q1, q2, q3⟩ := h.bt.rules
  rw [e1] at q1
  clear h e1 c0 c1 c2 c3 c4
  have hk' : (k : Int) < S.L.length := by omega
  generalize (tAt S.L k).B = B at *
  have hl' : (l : Int) < B.size := by omega
  have E : Hid (byteN B l = ((B[l]'hl).toNat : Int)) := Lib.hid (by
    unfold byteN
    have : l < B.data.toList.length := by simpa using hl
    rw [List.getD_eq_getElem?_getD, List.getElem?_eq_getElem this]; rfl)
  generalize S.L.length = n at *
  generalize X.bt = bt at *
  go_enter Tryz.func175, Tryz.ntmps175
  go_wp2
  go_ret
  refine ⟨ret_int ?_, Ext.refl _⟩
  rw [E.out]
  have := (B[l]).toNat_lt
  exact IntWalk.wrap64_in _ ⟨by omega, by omega⟩
theorem Ext.frozen (x : Ext w w') (b i : Nat) (h : b < w.heap.size) : w'.frozen? ⟨b, i, none⟩ = w.frozen? ⟨b, i, none⟩ := World.frozen?_of_block (x.below.block b h)
def tcells (t : PT) (vF : Value) (B : ByteArray) : Array Value := #[.int .i64 t.cls, .int .i64 t.fmt, .int .i64 t.hash, .bool t.fin, vF, .string B]
/-! ### the bytes of a text, on the way -/
def bCells (B : ByteArray) (j : Nat) : Array Value := Array.ofFn (n := B.size) fun l => .int .u8 (if l.1 < j then byteN B l.1 else 0)
theorem bCells_size (B : ByteArray) (j : Nat) : (bCells B j).size = B.size := by unfold bCells; simp
theorem bCells_at (B : ByteArray) (j l : Nat) (h : l < B.size) : (bCells B j)[l]? = some (.int .u8 (if l < j then byteN B l else 0)) := by
  unfold bCells; rw [Array.getElem?_ofFn, dif_pos h]
theorem bCells_zero (B : ByteArray) : bCells B 0 = Array.replicate B.size (.int .u8 0) := by
  apply Array.ext
  · rw [bCells_size]; simp
  · intro l h1 h2
    unfold bCells
    simp
theorem bCells_set (B : ByteArray) (j : Nat) (h : j < B.size) : (bCells B j).setIfInBounds j (.int .u8 (byteN B j)) = bCells B (j + 1) := by
  apply Array.ext_getElem?
  intro l
  rw [Array.getElem?_setIfInBounds, bCells_size]
  by_cases hl : l < B.size
  · rw [bCells_at _ _ _ hl, bCells_at _ _ _ hl]
    by_cases e : j = l
    · subst e; rw [if_pos rfl, if_pos h, if_pos (by omega)]
    · rw [if_neg e]
      by_cases e2 : l < j
      · rw [if_pos e2, if_pos (by omega)]
      · rw [if_neg e2, if_neg (by omega)]
  · have e1 : (bCells B j)[l]? = none := by rw [Array.getElem?_eq_none_iff, bCells_size]; omega
    have e2 : (bCells B (j + 1))[l]? = none := by rw [Array.getElem?_eq_none_iff, bCells_size]; omega
    rw [if_neg (by omega), e1, e2]
def bNums (B : ByteArray) : List Int := (List.range B.size).map (byteN B)
theorem bNums_str (B : ByteArray) : strOfNums (bNums B) = B := by
  refine ByteArray.ext ?_
  apply Array.ext
  · have := strOfNums_size (bNums B)
    unfold bNums at this ⊢
    rw [List.length_map, List.length_range] at this
    exact this
  · intro i h1 h2
    unfold strOfNums bNums byteN
    simp [List.getD]
    rw [Array.getElem?_eq_getElem h2]; rfl
theorem b_string {W : World} {g : Nat} {B : ByteArray} (h : Blk W g 5 (bCells B B.size)) : Sem.run Tryz.prog (convert 37 9 (.slice (some ⟨g, 0, none⟩) B.size B.size)) W = .ok (.string B) W := by
  have e := run_convert_bytes_arg W 37 5 Tryz.underlying37 Tryz.underlying5 g 0 B.size B.size (bNums B) (by unfold bNums; simp) (fun i hi => by
    have hi : i < B.size := by simpa [bNums] using hi
    rw [Nat.zero_add, h.cell, bCells_at _ _ _ hi, if_pos hi]
    unfold bNums
    simp [hi]) 9 Tryz.underlying9
  rw [bNums_str] at e
  exact e
/-! ### the region of memory.Thing -/
structure TI (w1 : World) (m bt : Nat) (i tc tf th : Int) (tn : Bool) (L : Nat → Bool) (s : Nat → Value) (W : World) : Prop where
  v0 : L 0 = true → s 18 = .pointer (some ⟨m, 0, none⟩)
  v1 : L 1 = true → s 19 = .pointer (some ⟨m, 0, none⟩)
  v2 : L 2 = true → s 20 = .pointer (some ⟨m, 0, none⟩)
  v3 : L 3 = true → s 21 = .iface 88 (.pointer (some ⟨bt, 0, none⟩))
  v4 : L 4 = true → s 22 = .int .i64 i
  v5 : L 5 = true → s 23 = .int .i64 tc
  v6 : L 6 = true → s 24 = .pointer (some ⟨m, 0, none⟩)
  v7 : L 7 = true → s 25 = .pointer (some ⟨m, 0, none⟩)
  v8 : L 8 = true → s 26 = .pointer (some ⟨m, 0, none⟩)
  v9 : L 9 = true → s 27 = .iface 88 (.pointer (some ⟨bt, 0, none⟩))
  v10 : L 10 = true → s 28 = .int .i64 i
  v11 : L 11 = true → s 29 = .int .i64 tf
  v12 : L 12 = true → s 30 = .pointer (some ⟨m, 0, none⟩)
  v13 : L 13 = true → s 31 = .pointer (some ⟨m, 0, none⟩)
  v14 : L 14 = true → s 32 = .pointer (some ⟨m, 0, none⟩)
  v15 : L 15 = true → s 33 = .iface 88 (.pointer (some ⟨bt, 0, none⟩))
  v16 : L 16 = true → s 34 = .int .i64 i
  v17 : L 17 = true → s 35 = .int .i64 th
  v18 : L 18 = true → s 36 = .pointer (some ⟨m, 0, none⟩)
  v19 : L 19 = true → s 37 = .pointer (some ⟨m, 0, none⟩)
  v20 : L 20 = true → s 38 = .pointer (some ⟨m, 0, none⟩)
  v21 : L 21 = true → s 39 = .iface 88 (.pointer (some ⟨bt, 0, none⟩))
  v22 : L 22 = true → s 40 = .int .i64 i
  v23 : L 23 = true → s 41 = .bool tn
  v24 : L 24 = true → s 42 = .agg #[.int .i64 tc, .int .i64 tf, .int .i64 th, .bool tn, .slice none 0 0, .string ByteArray.empty]
  x : Ext w1 W
  k26 : L 26 = true → L 25 = true
  za : L 25 = true → L 26 = false → ∃ g, s 5 = .pointer (some ⟨g, 0, none⟩) ∧ w1.heap.size ≤ g ∧ Blk W g 62 #[.int .i64 0, .int .i64 0, .int .i64 0, .bool false, .slice none 0 0, .string ByteArray.empty]
  zb : L 26 = true → ∃ g, s 5 = .pointer (some ⟨g, 0, none⟩) ∧ w1.heap.size ≤ g ∧ Blk W g 62 #[.int .i64 tc, .int .i64 tf, .int .i64 th, .bool tn, .slice none 0 0, .string ByteArray.empty]
def frT (m g4 : Nat) (i : Int) (u s : Nat → Value) : Act := { tmps := #[.pointer (some ⟨m, 0, none⟩), .int .i64 i, u 2, u 3, .pointer (some ⟨g4, 0, none⟩), s 5, u 6, u 7, u 8, u 9, u 10, u 11, u 12, u 13, u 14, u 15, u 16, u 17, s 18, s 19, s 20, s 21, s 22, s 23, s 24, s 25, s 26, s 27, s 28, s 29, s 30, s 31, s 32, s 33, s 34, s 35, s 36, s 37, s 38, s 39, s 40, s 41, s 42, u 43, u 44, u 45, u 46, u 47, u 48, u 49, u 50, u 51, u 52, u 53, u 54, u 55, u 56, u 57, u 58, u 59, u 60, u 61, u 62, u 63, u 64, u 65, u 66, u 67, u 68, u 69, u 70, u 71, u 72, u 73, u 74, u 75, u 76, u 77, u 78, u 79, u 80, u 81, u 82, u 83, u 84, u 85, u 86, u 87, u 88, u 89, u 90, u 91, u 92], defers := [] }
def TInv (w1 : World) (m bt : Nat) (i tc tf th : Int) (tn : Bool) (g4 : Nat) (u : Nat → Value) (listed : Array Bool) (a : Act) (W : World) : Prop :=
  ∃ L : Nat → Bool, (∀ k, listed.getD k false = L k) ∧ ∃ s : Nat → Value, a = frT m g4 i u s ∧ listed.size = 27 ∧ TI w1 m bt i tc tf th tn L s W
set_option maxRecDepth 100000 in
set_option maxHeartbeats 1000000 in
/-- a copy of a text -/
theorem mthingB (h : M w F m S) (i : Int) (hi : S.has i = true) (hf : S.fmt i = 3) : Calls Tryz.prog 26 #[.pointer (some ⟨m, 0, none⟩), .int .i64 i] w fun e w' => e = .returned (.agg (tcells (S.t i) (.slice none 0 0) (S.t i).B)) ∧ Ext w w' := by
  have hi2 := MS.has_lt hi
  have hlen := h.wf.len
  have hlast := h.wf.last
  have hnB := h.wf.nB i.toNat (by omega)
  have hnF := h.wf.noF i.toNat (by omega)
  obtain ⟨X, hX⟩ := h
  obtain ⟨z1, _, ltm⟩ := hX.bm.rules
  have c0 : w.cell? ⟨m, 0, none⟩ = some (.iface 88 (.pointer (some ⟨X.bt, 0, none⟩))) := z1 0
  have C0 := Lib.hid c0
  have wf := hX.wf
  have CH := Lib.hid (fun W [x : IsExt w W] => hi ▸ thas (hX.ext x.out).ts wf i)
  have CC := Lib.hid (fun W [x : IsExt w W] => tclass (hX.ext x.out).ts wf i)
  have CF := Lib.hid (fun W [x : IsExt w W] => tfmt (hX.ext x.out).ts wf i)
  have CA := Lib.hid (fun W [x : IsExt w W] => thash (hX.ext x.out).ts wf i)
  have CL := Lib.hid (fun W [x : IsExt w W] => tfinal (hX.ext x.out).ts wf i)
  have CS := Lib.hid (fun W [x : IsExt w W] => tsize (hX.ext x.out).ts wf i)
  have CB : Hid (∀ W [x : IsExt w W] (l : Nat), l < (S.t i).B.size → Calls Tryz.prog 175 #[.pointer (some ⟨X.bt, 0, none⟩), .int .i64 i, .int .i64 l] W fun e w' => e = .returned (.int .i64 (byteN (S.t i).B l)) ∧ Ext W w') := Lib.hid (fun W x l hl => by
    obtain ⟨k, rfl⟩ := Int.eq_ofNat_of_zero_le hi2.1
    have hq : (tAt S.L k).B.size ≤ 200 := (by have := hnB; rw [Int.toNat_natCast] at this; exact this)
    exact tbyte (hX.ext x.out).ts k l (by omega) hl (by omega) (by omega))
  have e1 : S.cls i = (S.t i).cls := by unfold MS.cls; rw [if_pos hi]
  have e2 : S.hash i = (S.t i).hash := by unfold MS.hash; rw [if_pos hi]
  have e3 : S.final i = (S.t i).fin := by unfold MS.final; rw [hi]; rfl
  have e4 : S.fmt i = (S.t i).fmt := by unfold MS.fmt; rw [if_pos hi]
  have e5 : S.size i = ((S.t i).B.size : Int) := by
    have hF : (S.t i).F = [] := hnF (e4 ▸ hf)
    unfold MS.size; rw [if_pos hi, hF]; simp
  rw [e1] at CC
  rw [e4] at CF hf
  rw [e2] at CA
  rw [e3] at CL
  rw [e5] at CS
  clear hX z1 wf e1 e2 e3 e4 e5 hnF
  have hB : (S.t i).B.size ≤ 200 := hnB
  generalize S.t i = t at *
  obtain ⟨tc, tf, th, tn, tF, tB⟩ := t
  simp only at hf hB CC CF CA CL CS CB
  subst hf
  generalize X.bt = bt at *
  clear hnB
  go_enter Tryz.func26, Tryz.ntmps26
  go_wp2_with fail
  refine (CH.out _).mono ?_
  rintro e w1 ⟨rfl, x1⟩
  have i1 : IsExt w w1 := ⟨(is_ext w _).trans x1⟩
  have BR := Lib.hid ((Blk.new w 62 #[.int .i64 0, .int .i64 0, .int .i64 0, .bool false, .slice none 0 0, .string ByteArray.empty]).ext x1)
  clear x1 CH c0
  have c1 := (i1.out.below.cell (p := ⟨m, 0, none⟩) ltm).trans C0.out
  have l1 := Nat.lt_of_lt_of_le ltm i1.out.below.size
  go_upto_region 3 with (fail)
  have hm1 := c1
  have ltm1 := l1
  clear c1 l1
  refine wp_any_act (fun A hA => ?_)
  have eA : A = frT m w.heap.size i (fun q => A.tmps.getD q undef) (fun q => A.tmps.getD q undef) := by rw [hA]; rfl
  clear hA
  generalize (fun q => A.tmps.getD q undef) = u at eA
  subst eA
  refine wp_region_inv (Inv := TInv w1 m bt i tc 3 th tn w.heap.size u) (by kernel_rfl) ?_ ?_ ?_
  · refine ⟨fun _ => false, fun k => ?_, u, rfl, by simp, ⟨?_, ?_, ?_, ?_, ?_, ?_, ?_, ?_, ?_, ?_, ?_, ?_, ?_, ?_, ?_, ?_, ?_, ?_, ?_, ?_, ?_, ?_, ?_, ?_, ?_, ?_, ?_, ?_, ?_⟩⟩
    · rw [Array.getD_eq_getD_getElem?, Array.getElem?_replicate]; split <;> rfl
    all_goals first | exact is_ext w1 _ | (intro h; exact absurd h (by decide))
  · rintro listed a W ii ⟨L, hL, s, rfl, hsz, I⟩ hi
    obtain ⟨hlt, hnot, hdep⟩ := (ready_iff _ _).1 hi
    have hi27 : ii < 27 := hlt
    have cases27 : ii = 0 ∨ ii = 1 ∨ ii = 2 ∨ ii = 3 ∨ ii = 4 ∨ ii = 5 ∨ ii = 6 ∨ ii = 7 ∨ ii = 8 ∨ ii = 9 ∨ ii = 10 ∨ ii = 11 ∨ ii = 12 ∨ ii = 13 ∨ ii = 14 ∨ ii = 15 ∨ ii = 16 ∨ ii = 17 ∨ ii = 18 ∨ ii = 19 ∨ ii = 20 ∨ ii = 21 ∨ ii = 22 ∨ ii = 23 ∨ ii = 24 ∨ ii = 25 ∨ ii = 26 := by omega
    have hn0 : L ii = false := by rw [← hL ii]; exact not_bit hnot
    clear hi hlt hi27 hnot
    have iW : IsExt w1 W := ⟨I.x⟩
    have jW : IsExt w W := ⟨i1.out.trans I.x⟩
    have hc := (I.x.below.cell (p := ⟨m, 0, none⟩) ltm1).trans hm1
    have hfz := I.x.below.size
    unfold frT
    rcases cases27 with rfl | rfl | rfl | rfl | rfl | rfl | rfl | rfl | rfl | rfl | rfl | rfl | rfl | rfl | rfl | rfl | rfl | rfl | rfl | rfl | rfl | rfl | rfl | rfl | rfl | rfl | rfl
    · -- operation 0
      simp only [Region.binds, listed_bit hL] at hdep
      refine wpOp_step rfl (fun K' hK => ?_)
      go_simp
      exact hK _ _ ⟨_, bit_set hL hsz 0 (by omega), fun j => if j = 18 then .pointer (some ⟨m, 0, none⟩) else s j, by first | (simp [frT]; done) | (simp [frT]; rfl), by simpa using hsz, ⟨fun _ => rfl, I.v1, I.v2, I.v3, I.v4, I.v5, I.v6, I.v7, I.v8, I.v9, I.v10, I.v11, I.v12, I.v13, I.v14, I.v15, I.v16, I.v17, I.v18, I.v19, I.v20, I.v21, I.v22, I.v23, I.v24, I.x, I.k26, I.za, I.zb⟩⟩
    · -- operation 1
      simp only [Region.binds, listed_bit hL] at hdep
      have d0 : L 0 = true := by first | simpa [hL] using hdep | (simp [hL, Region.binds] at hdep; simp [hdep])
      have e0 := I.v0 d0
      refine wpOp_step rfl (fun K' hK => ?_)
      rw [e0]
      go_simp
      exact hK _ _ ⟨_, bit_set hL hsz 1 (by omega), fun j => if j = 19 then .pointer (some ⟨m, 0, none⟩) else s j, by first | (simp [frT, e0]; done) | (simp [frT, e0]; rfl), by simpa using hsz, ⟨I.v0, fun _ => rfl, I.v2, I.v3, I.v4, I.v5, I.v6, I.v7, I.v8, I.v9, I.v10, I.v11, I.v12, I.v13, I.v14, I.v15, I.v16, I.v17, I.v18, I.v19, I.v20, I.v21, I.v22, I.v23, I.v24, I.x, I.k26, I.za, I.zb⟩⟩
    · -- operation 2
      simp only [Region.binds, listed_bit hL] at hdep
      have d1 : L 1 = true := by first | simpa [hL] using hdep | (simp [hL, Region.binds] at hdep; simp [hdep])
      have e1 := I.v1 d1
      refine wpOp_step rfl (fun K' hK => ?_)
      rw [e1]
      go_simp
      exact hK _ _ ⟨_, bit_set hL hsz 2 (by omega), fun j => if j = 20 then .pointer (some ⟨m, 0, none⟩) else s j, by first | (simp [frT, e1]; done) | (simp [frT, e1]; rfl), by simpa using hsz, ⟨I.v0, I.v1, fun _ => rfl, I.v3, I.v4, I.v5, I.v6, I.v7, I.v8, I.v9, I.v10, I.v11, I.v12, I.v13, I.v14, I.v15, I.v16, I.v17, I.v18, I.v19, I.v20, I.v21, I.v22, I.v23, I.v24, I.x, I.k26, I.za, I.zb⟩⟩
    · -- operation 3
      simp only [Region.binds, listed_bit hL] at hdep
      have d2 : L 2 = true := by first | simpa [hL] using hdep | (simp [hL, Region.binds] at hdep; simp [hdep])
      have e2 := I.v2 d2
      refine wpOp_step rfl (fun K' hK => ?_)
      rw [e2]
      go_simp
      exact hK _ _ ⟨_, bit_set hL hsz 3 (by omega), fun j => if j = 21 then .iface 88 (.pointer (some ⟨bt, 0, none⟩)) else s j, by first | (simp [frT, e2]; done) | (simp [frT, e2]; rfl), by simpa using hsz, ⟨I.v0, I.v1, I.v2, fun _ => rfl, I.v4, I.v5, I.v6, I.v7, I.v8, I.v9, I.v10, I.v11, I.v12, I.v13, I.v14, I.v15, I.v16, I.v17, I.v18, I.v19, I.v20, I.v21, I.v22, I.v23, I.v24, I.x, I.k26, I.za, I.zb⟩⟩
    · -- operation 4
      simp only [Region.binds, listed_bit hL] at hdep
      refine wpOp_step rfl (fun K' hK => ?_)
      go_simp
      exact hK _ _ ⟨_, bit_set hL hsz 4 (by omega), fun j => if j = 22 then .int .i64 i else s j, by first | (simp [frT]; done) | (simp [frT]; rfl), by simpa using hsz, ⟨I.v0, I.v1, I.v2, I.v3, fun _ => rfl, I.v5, I.v6, I.v7, I.v8, I.v9, I.v10, I.v11, I.v12, I.v13, I.v14, I.v15, I.v16, I.v17, I.v18, I.v19, I.v20, I.v21, I.v22, I.v23, I.v24, I.x, I.k26, I.za, I.zb⟩⟩
    · -- operation 5
      simp only [Region.binds, listed_bit hL] at hdep
      have d3 : L 3 = true := by first | simpa [hL] using hdep | (simp [hL, Region.binds] at hdep; simp [hdep])
      have e3 := I.v3 d3
      have d4 : L 4 = true := by first | simpa [hL] using hdep | (simp [hL, Region.binds] at hdep; simp [hdep])
      have e4 := I.v4 d4
      refine wpOp_step rfl (fun K' hK => ?_)
      rw [e3, e4]
      go_simp
      refine (CC.out _).mono ?_
      rintro e w3 ⟨rfl, x3⟩
      exact hK _ _ ⟨_, bit_set hL hsz 5 (by omega), fun j => if j = 23 then .int .i64 tc else s j, by first | (simp [frT, e3, e4]; done) | (simp [frT, e3, e4]; rfl), by simpa using hsz, ⟨I.v0, I.v1, I.v2, I.v3, I.v4, fun _ => rfl, I.v6, I.v7, I.v8, I.v9, I.v10, I.v11, I.v12, I.v13, I.v14, I.v15, I.v16, I.v17, I.v18, I.v19, I.v20, I.v21, I.v22, I.v23, I.v24, I.x.trans x3, I.k26, fun h1 h2 => by obtain ⟨g, y1, y2, y3⟩ := I.za h1 h2; exact ⟨g, y1, y2, y3.ext x3⟩, fun h1 => by obtain ⟨g, y1, y2, y3⟩ := I.zb h1; exact ⟨g, y1, y2, y3.ext x3⟩⟩⟩
    · -- operation 6
      simp only [Region.binds, listed_bit hL] at hdep
      refine wpOp_step rfl (fun K' hK => ?_)
      go_simp
      exact hK _ _ ⟨_, bit_set hL hsz 6 (by omega), fun j => if j = 24 then .pointer (some ⟨m, 0, none⟩) else s j, by first | (simp [frT]; done) | (simp [frT]; rfl), by simpa using hsz, ⟨I.v0, I.v1, I.v2, I.v3, I.v4, I.v5, fun _ => rfl, I.v7, I.v8, I.v9, I.v10, I.v11, I.v12, I.v13, I.v14, I.v15, I.v16, I.v17, I.v18, I.v19, I.v20, I.v21, I.v22, I.v23, I.v24, I.x, I.k26, I.za, I.zb⟩⟩
    · -- operation 7
      simp only [Region.binds, listed_bit hL] at hdep
      have d6 : L 6 = true := by first | simpa [hL] using hdep | (simp [hL, Region.binds] at hdep; simp [hdep])
      have e6 := I.v6 d6
      refine wpOp_step rfl (fun K' hK => ?_)
      rw [e6]
      go_simp
      exact hK _ _ ⟨_, bit_set hL hsz 7 (by omega), fun j => if j = 25 then .pointer (some ⟨m, 0, none⟩) else s j, by first | (simp [frT, e6]; done) | (simp [frT, e6]; rfl), by simpa using hsz, ⟨I.v0, I.v1, I.v2, I.v3, I.v4, I.v5, I.v6, fun _ => rfl, I.v8, I.v9, I.v10, I.v11, I.v12, I.v13, I.v14, I.v15, I.v16, I.v17, I.v18, I.v19, I.v20, I.v21, I.v22, I.v23, I.v24, I.x, I.k26, I.za, I.zb⟩⟩
    · -- operation 8
      simp only [Region.binds, listed_bit hL] at hdep
      have d7 : L 7 = true := by first | simpa [hL] using hdep | (simp [hL, Region.binds] at hdep; simp [hdep])
      have e7 := I.v7 d7
      refine wpOp_step rfl (fun K' hK => ?_)
      rw [e7]
      go_simp
      exact hK _ _ ⟨_, bit_set hL hsz 8 (by omega), fun j => if j = 26 then .pointer (some ⟨m, 0, none⟩) else s j, by first | (simp [frT, e7]; done) | (simp [frT, e7]; rfl), by simpa using hsz, ⟨I.v0, I.v1, I.v2, I.v3, I.v4, I.v5, I.v6, I.v7, fun _ => rfl, I.v9, I.v10, I.v11, I.v12, I.v13, I.v14, I.v15, I.v16, I.v17, I.v18, I.v19, I.v20, I.v21, I.v22, I.v23, I.v24, I.x, I.k26, I.za, I.zb⟩⟩
    · -- operation 9
      simp only [Region.binds, listed_bit hL] at hdep
      have d8 : L 8 = true := by first | simpa [hL] using hdep | (simp [hL, Region.binds] at hdep; simp [hdep])
      have e8 := I.v8 d8
      refine wpOp_step rfl (fun K' hK => ?_)
      rw [e8]
      go_simp
      exact hK _ _ ⟨_, bit_set hL hsz 9 (by omega), fun j => if j = 27 then .iface 88 (.pointer (some ⟨bt, 0, none⟩)) else s j, by first | (simp [frT, e8]; done) | (simp [frT, e8]; rfl), by simpa using hsz, ⟨I.v0, I.v1, I.v2, I.v3, I.v4, I.v5, I.v6, I.v7, I.v8, fun _ => rfl, I.v10, I.v11, I.v12, I.v13, I.v14, I.v15, I.v16, I.v17, I.v18, I.v19, I.v20, I.v21, I.v22, I.v23, I.v24, I.x, I.k26, I.za, I.zb⟩⟩
    · -- operation 10
      simp only [Region.binds, listed_bit hL] at hdep
      refine wpOp_step rfl (fun K' hK => ?_)
      go_simp
      exact hK _ _ ⟨_, bit_set hL hsz 10 (by omega), fun j => if j = 28 then .int .i64 i else s j, by first | (simp [frT]; done) | (simp [frT]; rfl), by simpa using hsz, ⟨I.v0, I.v1, I.v2, I.v3, I.v4, I.v5, I.v6, I.v7, I.v8, I.v9, fun _ => rfl, I.v11, I.v12, I.v13, I.v14, I.v15, I.v16, I.v17, I.v18, I.v19, I.v20, I.v21, I.v22, I.v23, I.v24, I.x, I.k26, I.za, I.zb⟩⟩
    · -- operation 11
      simp only [Region.binds, listed_bit hL] at hdep
      have d9 : L 9 = true := by first | simpa [hL] using hdep | (simp [hL, Region.binds] at hdep; simp [hdep])
      have e9 := I.v9 d9
      have d10 : L 10 = true := by first | simpa [hL] using hdep | (simp [hL, Region.binds] at hdep; simp [hdep])
      have e10 := I.v10 d10
      refine wpOp_step rfl (fun K' hK => ?_)
      rw [e9, e10]
      go_simp
      refine (CF.out _).mono ?_
      rintro e w3 ⟨rfl, x3⟩
      exact hK _ _ ⟨_, bit_set hL hsz 11 (by omega), fun j => if j = 29 then .int .i64 3 else s j, by first | (simp [frT, e9, e10]; done) | (simp [frT, e9, e10]; rfl), by simpa using hsz, ⟨I.v0, I.v1, I.v2, I.v3, I.v4, I.v5, I.v6, I.v7, I.v8, I.v9, I.v10, fun _ => rfl, I.v12, I.v13, I.v14, I.v15, I.v16, I.v17, I.v18, I.v19, I.v20, I.v21, I.v22, I.v23, I.v24, I.x.trans x3, I.k26, fun h1 h2 => by obtain ⟨g, y1, y2, y3⟩ := I.za h1 h2; exact ⟨g, y1, y2, y3.ext x3⟩, fun h1 => by obtain ⟨g, y1, y2, y3⟩ := I.zb h1; exact ⟨g, y1, y2, y3.ext x3⟩⟩⟩
    · -- operation 12
      simp only [Region.binds, listed_bit hL] at hdep
      refine wpOp_step rfl (fun K' hK => ?_)
      go_simp
      exact hK _ _ ⟨_, bit_set hL hsz 12 (by omega), fun j => if j = 30 then .pointer (some ⟨m, 0, none⟩) else s j, by first | (simp [frT]; done) | (simp [frT]; rfl), by simpa using hsz, ⟨I.v0, I.v1, I.v2, I.v3, I.v4, I.v5, I.v6, I.v7, I.v8, I.v9, I.v10, I.v11, fun _ => rfl, I.v13, I.v14, I.v15, I.v16, I.v17, I.v18, I.v19, I.v20, I.v21, I.v22, I.v23, I.v24, I.x, I.k26, I.za, I.zb⟩⟩
    · -- operation 13
      simp only [Region.binds, listed_bit hL] at hdep
      have d12 : L 12 = true := by first | simpa [hL] using hdep | (simp [hL, Region.binds] at hdep; simp [hdep])
      have e12 := I.v12 d12
      refine wpOp_step rfl (fun K' hK => ?_)
      rw [e12]
      go_simp
      exact hK _ _ ⟨_, bit_set hL hsz 13 (by omega), fun j => if j = 31 then .pointer (some ⟨m, 0, none⟩) else s j, by first | (simp [frT, e12]; done) | (simp [frT, e12]; rfl), by simpa using hsz, ⟨I.v0, I.v1, I.v2, I.v3, I.v4, I.v5, I.v6, I.v7, I.v8, I.v9, I.v10, I.v11, I.v12, fun _ => rfl, I.v14, I.v15, I.v16, I.v17, I.v18, I.v19, I.v20, I.v21, I.v22, I.v23, I.v24, I.x, I.k26, I.za, I.zb⟩⟩
    · -- operation 14
      simp only [Region.binds, listed_bit hL] at hdep
      have d13 : L 13 = true := by first | simpa [hL] using hdep | (simp [hL, Region.binds] at hdep; simp [hdep])
      have e13 := I.v13 d13
      refine wpOp_step rfl (fun K' hK => ?_)
      rw [e13]
      go_simp
      exact hK _ _ ⟨_, bit_set hL hsz 14 (by omega), fun j => if j = 32 then .pointer (some ⟨m, 0, none⟩) else s j, by first | (simp [frT, e13]; done) | (simp [frT, e13]; rfl), by simpa using hsz, ⟨I.v0, I.v1, I.v2, I.v3, I.v4, I.v5, I.v6, I.v7, I.v8, I.v9, I.v10, I.v11, I.v12, I.v13, fun _ => rfl, I.v15, I.v16, I.v17, I.v18, I.v19, I.v20, I.v21, I.v22, I.v23, I.v24, I.x, I.k26, I.za, I.zb⟩⟩
    · -- operation 15
      simp only [Region.binds, listed_bit hL] at hdep
      have d14 : L 14 = true := by first | simpa [hL] using hdep | (simp [hL, Region.binds] at hdep; simp [hdep])
      have e14 := I.v14 d14
      refine wpOp_step rfl (fun K' hK => ?_)
      rw [e14]
      go_simp
      exact hK _ _ ⟨_, bit_set hL hsz 15 (by omega), fun j => if j = 33 then .iface 88 (.pointer (some ⟨bt, 0, none⟩)) else s j, by first | (simp [frT, e14]; done) | (simp [frT, e14]; rfl), by simpa using hsz, ⟨I.v0, I.v1, I.v2, I.v3, I.v4, I.v5, I.v6, I.v7, I.v8, I.v9, I.v10, I.v11, I.v12, I.v13, I.v14, fun _ => rfl, I.v16, I.v17, I.v18, I.v19, I.v20, I.v21, I.v22, I.v23, I.v24, I.x, I.k26, I.za, I.zb⟩⟩
    · -- operation 16
      simp only [Region.binds, listed_bit hL] at hdep
      refine wpOp_step rfl (fun K' hK => ?_)
      go_simp
      exact hK _ _ ⟨_, bit_set hL hsz 16 (by omega), fun j => if j = 34 then .int .i64 i else s j, by first | (simp [frT]; done) | (simp [frT]; rfl), by simpa using hsz, ⟨I.v0, I.v1, I.v2, I.v3, I.v4, I.v5, I.v6, I.v7, I.v8, I.v9, I.v10, I.v11, I.v12, I.v13, I.v14, I.v15, fun _ => rfl, I.v17, I.v18, I.v19, I.v20, I.v21, I.v22, I.v23, I.v24, I.x, I.k26, I.za, I.zb⟩⟩
    · -- operation 17
      simp only [Region.binds, listed_bit hL] at hdep
      have d15 : L 15 = true := by first | simpa [hL] using hdep | (simp [hL, Region.binds] at hdep; simp [hdep])
      have e15 := I.v15 d15
      have d16 : L 16 = true := by first | simpa [hL] using hdep | (simp [hL, Region.binds] at hdep; simp [hdep])
      have e16 := I.v16 d16
      refine wpOp_step rfl (fun K' hK => ?_)
      rw [e15, e16]
      go_simp
      refine (CA.out _).mono ?_
      rintro e w3 ⟨rfl, x3⟩
      exact hK _ _ ⟨_, bit_set hL hsz 17 (by omega), fun j => if j = 35 then .int .i64 th else s j, by first | (simp [frT, e15, e16]; done) | (simp [frT, e15, e16]; rfl), by simpa using hsz, ⟨I.v0, I.v1, I.v2, I.v3, I.v4, I.v5, I.v6, I.v7, I.v8, I.v9, I.v10, I.v11, I.v12, I.v13, I.v14, I.v15, I.v16, fun _ => rfl, I.v18, I.v19, I.v20, I.v21, I.v22, I.v23, I.v24, I.x.trans x3, I.k26, fun h1 h2 => by obtain ⟨g, y1, y2, y3⟩ := I.za h1 h2; exact ⟨g, y1, y2, y3.ext x3⟩, fun h1 => by obtain ⟨g, y1, y2, y3⟩ := I.zb h1; exact ⟨g, y1, y2, y3.ext x3⟩⟩⟩
    · -- operation 18
      simp only [Region.binds, listed_bit hL] at hdep
      refine wpOp_step rfl (fun K' hK => ?_)
      go_simp
      exact hK _ _ ⟨_, bit_set hL hsz 18 (by omega), fun j => if j = 36 then .pointer (some ⟨m, 0, none⟩) else s j, by first | (simp [frT]; done) | (simp [frT]; rfl), by simpa using hsz, ⟨I.v0, I.v1, I.v2, I.v3, I.v4, I.v5, I.v6, I.v7, I.v8, I.v9, I.v10, I.v11, I.v12, I.v13, I.v14, I.v15, I.v16, I.v17, fun _ => rfl, I.v19, I.v20, I.v21, I.v22, I.v23, I.v24, I.x, I.k26, I.za, I.zb⟩⟩
    · -- operation 19
      simp only [Region.binds, listed_bit hL] at hdep
      have d18 : L 18 = true := by first | simpa [hL] using hdep | (simp [hL, Region.binds] at hdep; simp [hdep])
      have e18 := I.v18 d18
      refine wpOp_step rfl (fun K' hK => ?_)
      rw [e18]
      go_simp
      exact hK _ _ ⟨_, bit_set hL hsz 19 (by omega), fun j => if j = 37 then .pointer (some ⟨m, 0, none⟩) else s j, by first | (simp [frT, e18]; done) | (simp [frT, e18]; rfl), by simpa using hsz, ⟨I.v0, I.v1, I.v2, I.v3, I.v4, I.v5, I.v6, I.v7, I.v8, I.v9, I.v10, I.v11, I.v12, I.v13, I.v14, I.v15, I.v16, I.v17, I.v18, fun _ => rfl, I.v20, I.v21, I.v22, I.v23, I.v24, I.x, I.k26, I.za, I.zb⟩⟩
    · -- operation 20
      simp only [Region.binds, listed_bit hL] at hdep
      have d19 : L 19 = true := by first | simpa [hL] using hdep | (simp [hL, Region.binds] at hdep; simp [hdep])
      have e19 := I.v19 d19
      refine wpOp_step rfl (fun K' hK => ?_)
      rw [e19]
      go_simp
      exact hK _ _ ⟨_, bit_set hL hsz 20 (by omega), fun j => if j = 38 then .pointer (some ⟨m, 0, none⟩) else s j, by first | (simp [frT, e19]; done) | (simp [frT, e19]; rfl), by simpa using hsz, ⟨I.v0, I.v1, I.v2, I.v3, I.v4, I.v5, I.v6, I.v7, I.v8, I.v9, I.v10, I.v11, I.v12, I.v13, I.v14, I.v15, I.v16, I.v17, I.v18, I.v19, fun _ => rfl, I.v21, I.v22, I.v23, I.v24, I.x, I.k26, I.za, I.zb⟩⟩
    · -- operation 21
      simp only [Region.binds, listed_bit hL] at hdep
      have d20 : L 20 = true := by first | simpa [hL] using hdep | (simp [hL, Region.binds] at hdep; simp [hdep])
      have e20 := I.v20 d20
      refine wpOp_step rfl (fun K' hK => ?_)
      rw [e20]
      go_simp
      exact hK _ _ ⟨_, bit_set hL hsz 21 (by omega), fun j => if j = 39 then .iface 88 (.pointer (some ⟨bt, 0, none⟩)) else s j, by first | (simp [frT, e20]; done) | (simp [frT, e20]; rfl), by simpa using hsz, ⟨I.v0, I.v1, I.v2, I.v3, I.v4, I.v5, I.v6, I.v7, I.v8, I.v9, I.v10, I.v11, I.v12, I.v13, I.v14, I.v15, I.v16, I.v17, I.v18, I.v19, I.v20, fun _ => rfl, I.v22, I.v23, I.v24, I.x, I.k26, I.za, I.zb⟩⟩
    · -- operation 22
      simp only [Region.binds, listed_bit hL] at hdep
      refine wpOp_step rfl (fun K' hK => ?_)
      go_simp
      exact hK _ _ ⟨_, bit_set hL hsz 22 (by omega), fun j => if j = 40 then .int .i64 i else s j, by first | (simp [frT]; done) | (simp [frT]; rfl), by simpa using hsz, ⟨I.v0, I.v1, I.v2, I.v3, I.v4, I.v5, I.v6, I.v7, I.v8, I.v9, I.v10, I.v11, I.v12, I.v13, I.v14, I.v15, I.v16, I.v17, I.v18, I.v19, I.v20, I.v21, fun _ => rfl, I.v23, I.v24, I.x, I.k26, I.za, I.zb⟩⟩
    · -- operation 23
      simp only [Region.binds, listed_bit hL] at hdep
      have d21 : L 21 = true := by first | simpa [hL] using hdep | (simp [hL, Region.binds] at hdep; simp [hdep])
      have e21 := I.v21 d21
      have d22 : L 22 = true := by first | simpa [hL] using hdep | (simp [hL, Region.binds] at hdep; simp [hdep])
      have e22 := I.v22 d22
      refine wpOp_step rfl (fun K' hK => ?_)
      rw [e21, e22]
      go_simp
      refine (CL.out _).mono ?_
      rintro e w3 ⟨rfl, x3⟩
      exact hK _ _ ⟨_, bit_set hL hsz 23 (by omega), fun j => if j = 41 then .bool tn else s j, by first | (simp [frT, e21, e22]; done) | (simp [frT, e21, e22]; rfl), by simpa using hsz, ⟨I.v0, I.v1, I.v2, I.v3, I.v4, I.v5, I.v6, I.v7, I.v8, I.v9, I.v10, I.v11, I.v12, I.v13, I.v14, I.v15, I.v16, I.v17, I.v18, I.v19, I.v20, I.v21, I.v22, fun _ => rfl, I.v24, I.x.trans x3, I.k26, fun h1 h2 => by obtain ⟨g, y1, y2, y3⟩ := I.za h1 h2; exact ⟨g, y1, y2, y3.ext x3⟩, fun h1 => by obtain ⟨g, y1, y2, y3⟩ := I.zb h1; exact ⟨g, y1, y2, y3.ext x3⟩⟩⟩
    · -- operation 24
      simp only [Region.binds, listed_bit hL] at hdep
      have d5 : L 5 = true := by first | simpa [hL] using hdep | (simp [hL, Region.binds] at hdep; simp [hdep])
      have e5 := I.v5 d5
      have d11 : L 11 = true := by first | simpa [hL] using hdep | (simp [hL, Region.binds] at hdep; simp [hdep])
      have e11 := I.v11 d11
      have d17 : L 17 = true := by first | simpa [hL] using hdep | (simp [hL, Region.binds] at hdep; simp [hdep])
      have e17 := I.v17 d17
      have d23 : L 23 = true := by first | simpa [hL] using hdep | (simp [hL, Region.binds] at hdep; simp [hdep])
      have e23 := I.v23 d23
      refine wpOp_step rfl (fun K' hK => ?_)
      rw [e5, e11, e17, e23]
      go_simp
      exact hK _ _ ⟨_, bit_set hL hsz 24 (by omega), fun j => if j = 42 then .agg #[.int .i64 tc, .int .i64 3, .int .i64 th, .bool tn, .slice none 0 0, .string ByteArray.empty] else s j, by first | (simp [frT, e5, e11, e17, e23]; done) | (simp [frT, e5, e11, e17, e23]; rfl), by simpa using hsz, ⟨I.v0, I.v1, I.v2, I.v3, I.v4, I.v5, I.v6, I.v7, I.v8, I.v9, I.v10, I.v11, I.v12, I.v13, I.v14, I.v15, I.v16, I.v17, I.v18, I.v19, I.v20, I.v21, I.v22, I.v23, fun _ => rfl, I.x, I.k26, I.za, I.zb⟩⟩
    · -- operation 25
      simp only [Region.binds, listed_bit hL] at hdep
      have n26 : L 26 = false := by cases hh : L 26 with | false => rfl | true => rw [I.k26 hh] at hn0; cases hn0
      refine wpOp_step rfl (fun K' hK => ?_)
      go_simp
      exact hK _ _ ⟨_, bit_set hL hsz 25 (by omega), fun j => if j = 5 then .pointer (some ⟨W.heap.size, 0, none⟩) else s j, by first | (simp [frT]; done) | (simp [frT]; rfl), by simpa using hsz, ⟨I.v0, I.v1, I.v2, I.v3, I.v4, I.v5, I.v6, I.v7, I.v8, I.v9, I.v10, I.v11, I.v12, I.v13, I.v14, I.v15, I.v16, I.v17, I.v18, I.v19, I.v20, I.v21, I.v22, I.v23, I.v24, is_ext w1 _, fun h => rfl, fun _ _ => ⟨_, rfl, hfz, Blk.new _ _ _⟩, fun h => absurd (show L 26 = true from h) (by rw [n26]; decide)⟩⟩
    · -- operation 26
      simp only [Region.binds, listed_bit hL] at hdep
      have d24 : L 24 = true := by first | simpa [hL] using hdep | (simp [hL, Region.binds] at hdep; simp [hdep])
      have e24 := I.v24 d24
      have d25 : L 25 = true := by first | simpa [hL] using hdep | (simp [hL, Region.binds] at hdep; simp [hdep])
      obtain ⟨g, e25, hg, hB⟩ := I.za d25 hn0
      obtain ⟨q1, q2, q3⟩ := hB.rules
      refine wpOp_step rfl (fun K' hK => ?_)
      rw [e24, e25]
      have IX := Lib.hid I
      have HB := Lib.hid hB
      clear I hB
      go_simp
      exact hK _ _ ⟨_, bit_set hL hsz 26 (by omega), s, by first | (simp [frT, e24, e25]; done) | (simp [frT, e24, e25]; rfl), by simpa using hsz, ⟨IX.out.v0, IX.out.v1, IX.out.v2, IX.out.v3, IX.out.v4, IX.out.v5, IX.out.v6, IX.out.v7, IX.out.v8, IX.out.v9, IX.out.v10, IX.out.v11, IX.out.v12, IX.out.v13, IX.out.v14, IX.out.v15, IX.out.v16, IX.out.v17, IX.out.v18, IX.out.v19, IX.out.v20, IX.out.v21, IX.out.v22, IX.out.v23, IX.out.v24, ((((((IX.out.x.setNew (p := ⟨g, 0, none⟩) hg _).setNew (p := ⟨g, 1, none⟩) hg _).setNew (p := ⟨g, 2, none⟩) hg _).setNew (p := ⟨g, 3, none⟩) hg _).setNew (p := ⟨g, 4, none⟩) hg _).setNew (p := ⟨g, 5, none⟩) hg _), fun _ => d25, fun _ h => absurd h (by simp), fun _ => ⟨g, e25, hg, ((((((HB.out.set 0 _).set 1 _).set 2 _).set 3 _).set 4 _).set 5 _)⟩⟩⟩
  · rintro listed a W ⟨L, hL, s, rfl, hsz, I⟩ hr
    have ALL : ∀ i, i < 27 → L i = true := fun i hi => by rw [← hL i]; exact all_listed_m (by kernel_rfl) hsz hr i hi
    obtain ⟨g, e5, hg, hB⟩ := I.zb (ALL 26 (by omega))
    have hx := I.x
    clear I hL ALL hr hsz
    unfold frT
    dsimp only
    rw [e5]
    have iW : IsExt w W := ⟨i1.out.trans hx⟩
    have iWW : IsExt W W := ⟨Ext.refl _⟩
    have c2 := (iW.out.below.cell (p := ⟨m, 0, none⟩) ltm).trans C0.out
    have b0 := BR.out.lt
    clear hm1 ltm1 CC CF CA CL
    go_wp2_with fail
    refine (CS.out _).mono ?_
    rintro e w2 ⟨rfl, x2⟩
    have xw2 := Lib.hid (hx.trans ((is_ext W _).trans x2))
    replace iW : IsExt w w2 := ⟨i1.out.trans xw2.out⟩
    have BT := Lib.hid (hB.ext ((is_ext W _).trans x2))
    obtain ⟨q1, q2, q3⟩ := BT.out.rules
    have MK := make_u8 tB.size (by omega)
    have s12 := xw2.out.below.size
    clear x2 CS c2 hx hB iWW
    go_wp2_with fail
    generalize hgb : w2.heap.size = gb at *
    go_loopw [8, 56] (fun _ jv wr => ∃ j : Nat, j ≤ tB.size ∧ jv = .int .i64 j ∧ Ext w1 wr ∧ Blk wr g 62 #[.int .i64 tc, .int .i64 3, .int .i64 th, .bool tn, .slice none 0 0, .string ByteArray.empty] ∧ Blk wr gb 5 (bCells tB j)) (fun _ jv _ => tB.size - (intOf jv).toNat)
    case atStart => exact ⟨0, by omega, rfl, xw2.out.trans (is_ext w2 _), BT.out.alloc _, by rw [bCells_zero, ← hgb]; exact Blk.new _ _ _⟩
    case round =>
      clear q1 q2 q3 BT xw2 MK
      obtain ⟨j, hj, rfl, xr, bg, bb⟩ := hrel
      have iR : IsExt w wr := ⟨i1.out.trans xr⟩
      have c2 := (iR.out.below.cell (p := ⟨m, 0, none⟩) ltm).trans C0.out
      by_cases hlt : j < tB.size
      · have jI : (j : Int) < (tB.size : Int) := by omega
        have XR := Lib.hid xr
        have BG := Lib.hid bg
        have BB := Lib.hid bb
        clear xr bg bb
        go_wp2_with fail
        refine (CB.out _ j hlt).mono ?_
        rintro e w3 ⟨rfl, x3⟩
        have b3 := BB.out.ext x3
        have g3 := BG.out.ext x3
        have hne := g3.ne b3 (by decide)
        have B3 := Lib.hid b3
        have G3 := Lib.hid g3
        have X3 := Lib.hid (XR.out.trans x3)
        have hst := bCells_set tB j hlt
        obtain ⟨r1, r2, r3⟩ := b3.rules
        have e3 := bCells_at tB j j hlt
        have y1 : 0 ≤ byteN tB j := by unfold byteN; omega
        have y2 : byteN tB j ≤ 255 := by unfold byteN; have := (tB.data.toList.getD j 0).toNat_lt; omega
        have HS := Lib.hid hst
        have s2g : w1.heap.size ≤ gb := s12
        clear b3 g3 x3 XR BG BB CB hst
        generalize byteN tB j = y at *
        go_wp2_with fail
        go_roundw
        case rel => exact ⟨j + 1, by omega, by go_num, X3.out.setNew (p := ⟨gb, j, none⟩) s2g _, G3.out.far hne _, by rw [← HS.out]; exact B3.out.set j _⟩
        case measure => simp [intOf]; omega
      · obtain rfl : j = tB.size := by omega
        have CV := b_string bb
        have XR := Lib.hid xr
        obtain ⟨r1, r2, r3⟩ := bg.rules
        have br := BR.out.ext xr
        obtain ⟨t1, t2, t3⟩ := br.rules
        have ne1 : g ≠ w.heap.size := by omega
        have ne2 : w.heap.size ≠ g := by omega
        clear xr bg bb br CB
        go_wp2_with fail
        refine bodyPost_ret (v := .agg #[.int .i64 tc, .int .i64 3, .int .i64 th, .bool tn, .slice none 0 0, .string tB]) (by simp [results, Tryz.results26, go_sem, t1]) rfl ⟨rfl, ?_⟩
        have x0 : Ext w wr := i1.out.trans XR.out
        exact (((((((x0.setNew (p := ⟨g, 5, none⟩) (show w.heap.size ≤ g by omega) _).setNew (p := ⟨w.heap.size, 0, none⟩) (Nat.le_refl _) _).setNew (p := ⟨w.heap.size, 1, none⟩) (Nat.le_refl _) _).setNew (p := ⟨w.heap.size, 2, none⟩) (Nat.le_refl _) _).setNew (p := ⟨w.heap.size, 3, none⟩) (Nat.le_refl _) _).setNew (p := ⟨w.heap.size, 4, none⟩) (Nat.le_refl _) _).setNew (p := ⟨w.heap.size, 5, none⟩) (Nat.le_refl _) _)
end
end Go.Proofs.YtnhijjcplnomgaaGreat.World
