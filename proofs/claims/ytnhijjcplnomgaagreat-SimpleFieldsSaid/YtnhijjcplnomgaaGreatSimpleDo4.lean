/-
  Contract of simple.Do: field (a field of the receiver is pushed).
-/
import Derived.Test.YtnhijjcplnomgaaGreatSimpleDo
namespace Go.Proofs.YtnhijjcplnomgaaGreat.World
open Go.RowKit Go.Proofs.YtnhijjcplnomgaaGreat.Plain
set_option linter.unusedVariables false
attribute [local go_sem ↓] Go.wp_at_zero Go.wp_at_succ
namespace MS
/-- field: the receiver's field a is pushed, if there is one -/
def pfOK (S : MS) (id a : Int) : Bool := S.hasF (S.get id 4) a && S.pushOK id (S.get (S.get id 4).n a)
def pf (S : MS) (id a : Int) : MS := if S.hasF (S.get id 4) a = true then S.push id (S.get (S.get id 4).n a) else S
end MS
/-! ### a field of the receiver: a region whose calls come in any order -/
structure DI (w : World) (m g g9 : Nat) (id op a b : Int) (mo : Bool) (mn : Int) (vo : Bool) (vn : Int) (ok : Bool) (L : Nat → Bool) (s : Nat → Value) (W : World) : Prop where
  v0 : L 0 = true → s 53 = .pointer (some ⟨m, 0, none⟩)
  v1 : L 1 = true → s 54 = .pointer (some ⟨g9, 1, none⟩)
  v2 : L 2 = true → s 55 = .int .i64 mn
  v3 : L 3 = true → s 56 = .pointer (some ⟨g, 1, none⟩)
  v4 : L 4 = true → s 57 = .int .i64 a
  v5 : L 5 = true → s 58 = .agg #[.bool vo, .int .i64 vn]
  v6 : L 6 = true → s 59 = .pointer (some ⟨m, 0, none⟩)
  v7 : L 7 = true → s 60 = .agg #[.bool mo, .int .i64 mn]
  v8 : L 8 = true → s 61 = .pointer (some ⟨g, 1, none⟩)
  v9 : L 9 = true → s 62 = .int .i64 a
  v10 : L 10 = true → s 63 = .bool ok
  v12 : L 12 = true → s 8 = .bool ok
  x : Ext w W
  bi : Blk W g 50 #[.int .i64 op, .int .i64 a, .int .i64 b]
  bm : Blk W g9 40 #[.bool mo, .int .i64 mn]
  va : L 11 = false → Blk W (g + 1) 40 #[.bool false, .int .i64 0]
  vb : L 11 = true → Blk W (g + 1) 40 #[.bool vo, .int .i64 vn]
def frD (m g g9 : Nat) (id : Int) (u s : Nat → Value) : Act := { tmps := #[.pointer (some ⟨m, 0, none⟩), .int .i64 id, u 2, u 3, u 4, .pointer (some ⟨g, 0, none⟩), u 6, .pointer (some ⟨g + 1, 0, none⟩), s 8, .pointer (some ⟨g9, 0, none⟩), u 10, u 11, u 12, u 13, u 14, u 15, u 16, u 17, u 18, u 19, u 20, u 21, u 22, u 23, u 24, u 25, u 26, u 27, u 28, u 29, u 30, u 31, u 32, u 33, u 34, u 35, u 36, u 37, u 38, u 39, u 40, u 41, u 42, u 43, u 44, u 45, u 46, u 47, u 48, u 49, u 50, u 51, u 52, s 53, s 54, s 55, s 56, s 57, s 58, s 59, s 60, s 61, s 62, s 63, u 64, u 65, u 66, u 67, u 68, u 69, u 70, u 71, u 72, u 73, u 74, u 75, u 76, u 77, u 78, u 79, u 80, u 81, u 82, u 83, u 84, u 85, u 86, u 87, u 88, u 89, u 90, u 91, u 92, u 93, u 94, u 95, u 96, u 97, u 98, u 99, u 100, u 101, u 102, u 103, u 104, u 105, u 106, u 107, u 108, u 109, u 110, u 111, u 112, u 113, u 114, u 115, u 116, u 117, u 118, u 119, u 120, u 121, u 122, u 123, u 124, u 125, u 126, u 127, u 128, u 129, u 130, u 131, u 132, u 133, u 134, u 135, u 136, u 137, u 138, u 139, u 140, u 141, u 142, u 143, u 144, u 145, u 146, u 147, u 148, u 149, u 150, u 151, u 152, u 153, u 154, u 155, u 156, u 157, u 158, u 159, u 160, u 161, u 162, u 163, u 164, u 165, u 166, u 167, u 168, u 169, u 170, u 171, u 172, u 173, u 174, u 175, u 176, u 177, u 178, u 179, u 180, u 181, u 182, u 183, u 184, u 185, u 186, u 187, u 188, u 189, u 190, u 191, u 192, u 193, u 194, u 195, u 196, u 197, u 198, u 199, u 200, u 201, u 202, u 203, u 204, u 205, u 206], defers := [] }
def DInv (w : World) (m g g9 : Nat) (id op a b : Int) (mo : Bool) (mn : Int) (vo : Bool) (vn : Int) (ok : Bool) (u : Nat → Value) (listed : Array Bool) (act : Act) (W : World) : Prop :=
  ∃ L : Nat → Bool, (∀ k, listed.getD k false = L k) ∧ ∃ s : Nat → Value, act = frD m g g9 id u s ∧ listed.size = 13 ∧ DI w m g g9 id op a b mo mn vo vn ok L s W
section
variable {w w' w2 : World} {F F' F2 : Nat → Prop} {m : Nat} {S S' : MS} {X : MX}
set_option maxRecDepth 100000 in
set_option maxHeartbeats 4000000 in
theorem sdo4 (h : M w F m S) (hp : S.phase ≠ 1) {id : Int} (hf : S.isFrame id = true) (a b : Int) : Calls Tryz.prog 23 #[.pointer (some ⟨m, 0, none⟩), .int .i64 id, .agg #[.int .i64 4, .int .i64 a, .int .i64 b]] w fun e w' => e = .returned (.bool (S.pfOK id a)) ∧ M w' F m (S.pf id a) ∧ Keep F w w' := by
  have C1 := Lib.hid (fun W [x : IsExt w W] => fis (h.ext x.out) id)
  have C2 := Lib.hid (fun W [x : IsExt w W] => mget (h.ext x.out) id 4)
  have CG := Lib.hid (fun W [x : IsExt w W] => mget (h.ext x.out) (S.get id 4).n a)
  have CH := Lib.hid (fun W [x : IsExt w W] => shas (h.ext x.out) (S.get id 4) a)
  have C3 := Lib.hid (fun W [x : IsExt w W] => fpush (h.ext x.out) hp id (S.get (S.get id 4).n a))
  have HM := Lib.hid h
  rw [hf] at C1
  have EO : Hid (S.pfOK id a = (S.hasF (S.get id 4) a && S.pushOK id (S.get (S.get id 4).n a))) := Lib.hid rfl
  have ES : Hid (S.pf id a = if S.hasF (S.get id 4) a = true then S.push id (S.get (S.get id 4).n a) else S) := Lib.hid rfl
  clear h hf hp
  generalize S.pfOK id a = res at *
  generalize S.pf id a = RS at *
  generalize S.hasF (S.get id 4) a = ok at *
  generalize S.get (S.get id 4).n a = v at *
  generalize S.pushOK id v = po at *
  generalize S.push id v = P at *
  generalize S.get id 4 = me at *
  obtain ⟨vo, vn⟩ := v
  obtain ⟨mo, mn⟩ := me
  unfold val at *
  go_enter Tryz.func23, Tryz.ntmps23
  go_wp2_with fail
  go_step3
  go_wp2_with fail
  refine (C1.out _).mono ?_
  rintro e w1 ⟨rfl, x1⟩
  have B5 := ((Blk.new w 50 #[.int .i64 4, .int .i64 a, .int .i64 b]).alloc (.cells #[.bool false, .int .i64 0] 40)).ext x1
  have B7 := (Blk.at_ (w := w.alloc (.cells #[.int .i64 4, .int .i64 a, .int .i64 b] 50)) (g := w.heap.size + 1) 40 #[.bool false, .int .i64 0] (by simp)).ext x1
  have i1 : IsExt w w1 := ⟨(((Ext.refl w).alloc _).alloc _).trans x1⟩
  clear x1 C1
  go_wp2_with fail
  refine (C2.out _).mono ?_
  rintro e w2 ⟨rfl, x2⟩
  have l7 := (B7.ext x2).lt
  replace B5 := (B5.ext x2).alloc (.cells #[.bool mo, .int .i64 mn] 40)
  replace B7 := (B7.ext x2).alloc (.cells #[.bool mo, .int .i64 mn] 40)
  have B9 := Blk.new w2 40 #[.bool mo, .int .i64 mn]
  have i2 : IsExt w w2 := ⟨i1.out.trans x2⟩
  obtain ⟨p1, p2, p3⟩ := B5.rules
  clear x2 C2 i1
  generalize hg5 : w.heap.size = g at *
  go_upto_region 15 with (fail)
  refine wp_name (fun w6 hW => ?_)
  rw [← hW] at B5 B7 B9
  have X6 : Hid (Ext w w6) := Lib.hid (by rw [hW]; exact i2.out.alloc _)
  have E5 := Lib.hid B5
  have E7 := Lib.hid B7
  have E9 := Lib.hid B9
  have hne : g ≠ g + 1 := by omega
  have hne9 : w2.heap.size ≠ g + 1 := by omega
  have hg1 : w.heap.size ≤ g + 1 := by omega
  clear hW i2 p1 p2 p3 B5 B7 B9
  generalize w2.heap.size = g9 at *
  refine wp_any_act (fun A hA => ?_)
  have eA : A = frD m g g9 id (fun q => A.tmps.getD q undef) (fun q => A.tmps.getD q undef) := by rw [hA]; rfl
  clear hA
  generalize (fun q => A.tmps.getD q undef) = u at eA
  subst eA
  refine wp_region_inv (Inv := DInv w m g g9 id 4 a b mo mn vo vn ok u) (by kernel_rfl) ?_ ?_ ?_
  · refine ⟨fun _ => false, fun k => ?_, u, rfl, by simp, ⟨?_, ?_, ?_, ?_, ?_, ?_, ?_, ?_, ?_, ?_, ?_, ?_, ?_, ?_, ?_, ?_, ?_⟩⟩
    · rw [Array.getD_eq_getD_getElem?, Array.getElem?_replicate]; split <;> rfl
    · intro h; exact absurd h (by decide)
    · intro h; exact absurd h (by decide)
    · intro h; exact absurd h (by decide)
    · intro h; exact absurd h (by decide)
    · intro h; exact absurd h (by decide)
    · intro h; exact absurd h (by decide)
    · intro h; exact absurd h (by decide)
    · intro h; exact absurd h (by decide)
    · intro h; exact absurd h (by decide)
    · intro h; exact absurd h (by decide)
    · intro h; exact absurd h (by decide)
    · intro h; exact absurd h (by decide)
    · exact X6.out.drew
    · exact E5.out.drew
    · exact E9.out.drew
    · exact fun _ => E7.out.drew
    · intro h; exact absurd h (by decide)
  · rintro listed act W ii ⟨L, hL, s, rfl, hsz, I⟩ hi
    obtain ⟨hlt, hnot, hdep⟩ := (ready_iff _ _).1 hi
    have hiN : ii < 13 := hlt
    have casesN : ii = 0 ∨ ii = 1 ∨ ii = 2 ∨ ii = 3 ∨ ii = 4 ∨ ii = 5 ∨ ii = 6 ∨ ii = 7 ∨ ii = 8 ∨ ii = 9 ∨ ii = 10 ∨ ii = 11 ∨ ii = 12 := by omega
    have hn0 : L ii = false := by rw [← hL ii]; exact not_bit hnot
    clear hi hlt hiN hnot
    have iW : IsExt w W := ⟨I.x⟩
    obtain ⟨p1, p2, p3⟩ := I.bi.rules
    obtain ⟨r1, r2, r3⟩ := I.bm.rules
    unfold frD
    rcases casesN with rfl | rfl | rfl | rfl | rfl | rfl | rfl | rfl | rfl | rfl | rfl | rfl | rfl
    · -- operation 0
      simp only [Region.binds, listed_bit hL] at hdep
      refine wpOp_step rfl (fun K' hK => ?_)
      go_simp
      exact hK _ _ ⟨_, bit_set hL hsz 0 (by omega), fun j => if j = 53 then .pointer (some ⟨m, 0, none⟩) else s j, by first | (simp [frD]; done) | (simp [frD]; rfl), by simpa using hsz, ⟨fun _ => rfl, I.v1, I.v2, I.v3, I.v4, I.v5, I.v6, I.v7, I.v8, I.v9, I.v10, I.v12, I.x, I.bi, I.bm, I.va, I.vb⟩⟩
    · -- operation 1
      simp only [Region.binds, listed_bit hL] at hdep
      refine wpOp_step rfl (fun K' hK => ?_)
      go_simp
      exact hK _ _ ⟨_, bit_set hL hsz 1 (by omega), fun j => if j = 54 then .pointer (some ⟨g9, 1, none⟩) else s j, by first | (simp [frD]; done) | (simp [frD]; rfl), by simpa using hsz, ⟨I.v0, fun _ => rfl, I.v2, I.v3, I.v4, I.v5, I.v6, I.v7, I.v8, I.v9, I.v10, I.v12, I.x, I.bi, I.bm, I.va, I.vb⟩⟩
    · -- operation 2
      simp only [Region.binds, listed_bit hL] at hdep
      have d1 : L 1 = true := by first | simpa [hL] using hdep | (simp [hL, Region.binds] at hdep; simp [hdep])
      have e1 := I.v1 d1
      refine wpOp_step rfl (fun K' hK => ?_)
      rw [e1]
      go_simp
      exact hK _ _ ⟨_, bit_set hL hsz 2 (by omega), fun j => if j = 55 then .int .i64 mn else s j, by first | (simp [frD, e1]; done) | (simp [frD, e1]; rfl), by simpa using hsz, ⟨I.v0, I.v1, fun _ => rfl, I.v3, I.v4, I.v5, I.v6, I.v7, I.v8, I.v9, I.v10, I.v12, I.x, I.bi, I.bm, I.va, I.vb⟩⟩
    · -- operation 3
      simp only [Region.binds, listed_bit hL] at hdep
      refine wpOp_step rfl (fun K' hK => ?_)
      go_simp
      exact hK _ _ ⟨_, bit_set hL hsz 3 (by omega), fun j => if j = 56 then .pointer (some ⟨g, 1, none⟩) else s j, by first | (simp [frD]; done) | (simp [frD]; rfl), by simpa using hsz, ⟨I.v0, I.v1, I.v2, fun _ => rfl, I.v4, I.v5, I.v6, I.v7, I.v8, I.v9, I.v10, I.v12, I.x, I.bi, I.bm, I.va, I.vb⟩⟩
    · -- operation 4
      simp only [Region.binds, listed_bit hL] at hdep
      have d3 : L 3 = true := by first | simpa [hL] using hdep | (simp [hL, Region.binds] at hdep; simp [hdep])
      have e3 := I.v3 d3
      refine wpOp_step rfl (fun K' hK => ?_)
      rw [e3]
      go_simp
      exact hK _ _ ⟨_, bit_set hL hsz 4 (by omega), fun j => if j = 57 then .int .i64 a else s j, by first | (simp [frD, e3]; done) | (simp [frD, e3]; rfl), by simpa using hsz, ⟨I.v0, I.v1, I.v2, I.v3, fun _ => rfl, I.v5, I.v6, I.v7, I.v8, I.v9, I.v10, I.v12, I.x, I.bi, I.bm, I.va, I.vb⟩⟩
    · -- operation 5
      simp only [Region.binds, listed_bit hL] at hdep
      have d0 : L 0 = true := by first | simpa [hL] using hdep | (simp [hL, Region.binds] at hdep; simp [hdep])
      have e0 := I.v0 d0
      have d2 : L 2 = true := by first | simpa [hL] using hdep | (simp [hL, Region.binds] at hdep; simp [hdep])
      have e2 := I.v2 d2
      have d4 : L 4 = true := by first | simpa [hL] using hdep | (simp [hL, Region.binds] at hdep; simp [hdep])
      have e4 := I.v4 d4
      refine wpOp_step rfl (fun K' hK => ?_)
      rw [e0, e2, e4]
      go_simp
      refine (CG.out _).mono ?_
      rintro e w3 ⟨rfl, x3⟩
      exact hK _ _ ⟨_, bit_set hL hsz 5 (by omega), fun j => if j = 58 then .agg #[.bool vo, .int .i64 vn] else s j, by first | (simp [frD, e0, e2, e4]; done) | (simp [frD, e0, e2, e4]; rfl), by simpa using hsz, ⟨I.v0, I.v1, I.v2, I.v3, I.v4, fun _ => rfl, I.v6, I.v7, I.v8, I.v9, I.v10, I.v12, I.x.trans x3, I.bi.ext x3, I.bm.ext x3, fun h => (I.va h).ext x3, fun h => (I.vb h).ext x3⟩⟩
    · -- operation 6
      simp only [Region.binds, listed_bit hL] at hdep
      refine wpOp_step rfl (fun K' hK => ?_)
      go_simp
      exact hK _ _ ⟨_, bit_set hL hsz 6 (by omega), fun j => if j = 59 then .pointer (some ⟨m, 0, none⟩) else s j, by first | (simp [frD]; done) | (simp [frD]; rfl), by simpa using hsz, ⟨I.v0, I.v1, I.v2, I.v3, I.v4, I.v5, fun _ => rfl, I.v7, I.v8, I.v9, I.v10, I.v12, I.x, I.bi, I.bm, I.va, I.vb⟩⟩
    · -- operation 7
      simp only [Region.binds, listed_bit hL] at hdep
      refine wpOp_step rfl (fun K' hK => ?_)
      go_simp
      exact hK _ _ ⟨_, bit_set hL hsz 7 (by omega), fun j => if j = 60 then .agg #[.bool mo, .int .i64 mn] else s j, by first | (simp [frD]; done) | (simp [frD]; rfl), by simpa using hsz, ⟨I.v0, I.v1, I.v2, I.v3, I.v4, I.v5, I.v6, fun _ => rfl, I.v8, I.v9, I.v10, I.v12, I.x, I.bi, I.bm, I.va, I.vb⟩⟩
    · -- operation 8
      simp only [Region.binds, listed_bit hL] at hdep
      refine wpOp_step rfl (fun K' hK => ?_)
      go_simp
      exact hK _ _ ⟨_, bit_set hL hsz 8 (by omega), fun j => if j = 61 then .pointer (some ⟨g, 1, none⟩) else s j, by first | (simp [frD]; done) | (simp [frD]; rfl), by simpa using hsz, ⟨I.v0, I.v1, I.v2, I.v3, I.v4, I.v5, I.v6, I.v7, fun _ => rfl, I.v9, I.v10, I.v12, I.x, I.bi, I.bm, I.va, I.vb⟩⟩
    · -- operation 9
      simp only [Region.binds, listed_bit hL] at hdep
      have d8 : L 8 = true := by first | simpa [hL] using hdep | (simp [hL, Region.binds] at hdep; simp [hdep])
      have e8 := I.v8 d8
      refine wpOp_step rfl (fun K' hK => ?_)
      rw [e8]
      go_simp
      exact hK _ _ ⟨_, bit_set hL hsz 9 (by omega), fun j => if j = 62 then .int .i64 a else s j, by first | (simp [frD, e8]; done) | (simp [frD, e8]; rfl), by simpa using hsz, ⟨I.v0, I.v1, I.v2, I.v3, I.v4, I.v5, I.v6, I.v7, I.v8, fun _ => rfl, I.v10, I.v12, I.x, I.bi, I.bm, I.va, I.vb⟩⟩
    · -- operation 10
      simp only [Region.binds, listed_bit hL] at hdep
      have d6 : L 6 = true := by first | simpa [hL] using hdep | (simp [hL, Region.binds] at hdep; simp [hdep])
      have e6 := I.v6 d6
      have d7 : L 7 = true := by first | simpa [hL] using hdep | (simp [hL, Region.binds] at hdep; simp [hdep])
      have e7 := I.v7 d7
      have d9 : L 9 = true := by first | simpa [hL] using hdep | (simp [hL, Region.binds] at hdep; simp [hdep])
      have e9 := I.v9 d9
      refine wpOp_step rfl (fun K' hK => ?_)
      rw [e6, e7, e9]
      go_simp
      refine (CH.out _).mono ?_
      rintro e w3 ⟨rfl, x3⟩
      exact hK _ _ ⟨_, bit_set hL hsz 10 (by omega), fun j => if j = 63 then .bool ok else s j, by first | (simp [frD, e6, e7, e9]; done) | (simp [frD, e6, e7, e9]; rfl), by simpa using hsz, ⟨I.v0, I.v1, I.v2, I.v3, I.v4, I.v5, I.v6, I.v7, I.v8, I.v9, fun _ => rfl, I.v12, I.x.trans x3, I.bi.ext x3, I.bm.ext x3, fun h => (I.va h).ext x3, fun h => (I.vb h).ext x3⟩⟩
    · -- operation 11
      simp only [Region.binds, listed_bit hL] at hdep
      have d5 : L 5 = true := by first | simpa [hL] using hdep | (simp [hL, Region.binds] at hdep; simp [hdep])
      have e5 := I.v5 d5
      have hV := I.va hn0
      obtain ⟨q1, q2, q3⟩ := hV.rules
      refine wpOp_step rfl (fun K' hK => ?_)
      rw [e5]
      have IX := Lib.hid I
      have HV := Lib.hid hV
      clear I hV
      go_simp
      exact hK _ _ ⟨_, bit_set hL hsz 11 (by omega), s, by first | (simp [frD, e5]; done) | (simp [frD, e5]; rfl), by simpa using hsz, ⟨IX.out.v0, IX.out.v1, IX.out.v2, IX.out.v3, IX.out.v4, IX.out.v5, IX.out.v6, IX.out.v7, IX.out.v8, IX.out.v9, IX.out.v10, IX.out.v12, (IX.out.x.setNew (p := ⟨g + 1, 0, none⟩) hg1 _).setNew (p := ⟨g + 1, 1, none⟩) hg1 _, (IX.out.bi.far hne _).far hne _, (IX.out.bm.far hne9 _).far hne9 _, fun h => absurd h (by simp), fun _ => (HV.out.set 0 _).set 1 _⟩⟩
    · -- operation 12
      simp only [Region.binds, listed_bit hL] at hdep
      have d10 : L 10 = true := by first | simpa [hL] using hdep | (simp [hL, Region.binds] at hdep; simp [hdep])
      have e10 := I.v10 d10
      refine wpOp_step rfl (fun K' hK => ?_)
      rw [e10]
      go_simp
      exact hK _ _ ⟨_, bit_set hL hsz 12 (by omega), fun j => if j = 8 then .bool ok else s j, by first | (simp [frD, e10]; done) | (simp [frD, e10]; rfl), by simpa using hsz, ⟨I.v0, I.v1, I.v2, I.v3, I.v4, I.v5, I.v6, I.v7, I.v8, I.v9, I.v10, fun _ => rfl, I.x, I.bi, I.bm, I.va, I.vb⟩⟩
  · rintro listed act W ⟨L, hL, s, rfl, hsz, I⟩ hr
    have ALL : ∀ i, i < 13 → L i = true := fun i hi => by rw [← hL i]; exact all_listed_m (by kernel_rfl) hsz hr i hi
    have b7 := I.vb (ALL 11 (by omega))
    have e8 := I.v12 (ALL 12 (by omega))
    have hx := I.x
    clear I hL ALL hr hsz
    unfold frD
    dsimp only
    rw [e8]
    have X7 := Lib.hid hx
    have i7 : IsExt w W := ⟨hx⟩
    obtain ⟨q1, q2, q3⟩ := b7.rules
    clear hx CG CH
    cases ok with
    | false =>
      have er : res = false := EO.out
      have es : RS = S := ES.out
      subst er es
      clear EO ES C3 b7
      go_wp2_with fail
      rw [Exit.noGoto_ret]
      go_ret
      exact ⟨rfl, HM.out.ext X7.out, Keep.of_ext X7.out F⟩
    | true =>
      have er : res = po := EO.out
      have es : RS = P := ES.out
      subst er es
      clear EO ES b7
      go_wp2_with fail
      refine (C3.out _).mono ?_
      rintro e w8 ⟨rfl, m8, k8⟩
      have R := Lib.hid (show M w8 F m RS ∧ Keep F w w8 from ⟨m8, (Keep.of_ext X7.out F).trans k8⟩)
      clear m8 k8 C3
      go_wp2_with fail
      rw [Exit.noGoto_ret]
      go_ret
      exact ⟨ret_bool (by simp), R.out⟩
end
end Go.Proofs.YtnhijjcplnomgaaGreat.World
