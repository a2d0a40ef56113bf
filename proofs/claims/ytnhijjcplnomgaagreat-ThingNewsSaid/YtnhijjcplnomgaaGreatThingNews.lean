/-
  The walk of the law ThingNews.
-/
import Derived.Test.YtnhijjcplnomgaaGreatThingNews0
import Derived.Test.YtnhijjcplnomgaaGreatWord
import Derived.OpenShut
namespace Go.Proofs.YtnhijjcplnomgaaGreat.World
open Go.RowKit Go.Proofs.YtnhijjcplnomgaaGreat.Plain
set_option linter.unusedVariables false
attribute [local go_sem ↓] Go.wp_at_zero Go.wp_at_succ
/-! ### none of what is no class: a region whose box may come anywhere -/
structure NI (wz : World) (m g11 : Nat) (T : MS) (F7 F8 : Nat → Prop) (a2 no : Int) (r : Nat) (L : Nat → Bool) (s : Nat → Value) (W : World) : Prop where
  v0 : L 0 = true → s 168 = .pointer (some ⟨m, 0, none⟩)
  v1 : L 1 = true → s 169 = .pointer (some ⟨g11, 1, none⟩)
  v2 : L 2 = true → s 170 = .int .i64 23
  v3 : L 3 = true → s 171 = .agg #[.int .i64 0, .int .i64 19, .int .i64 22, .int .i64 23]
  v4 : L 4 = true → s 172 = .int .i64 a2
  v5 : L 5 = true → s 173 = .int .i64 r
  v6 : L 6 = true → s 174 = .int .i64 no
  v7 : L 7 = true → s 175 = .agg #[.bool true, .int .i64 no]
  v8 : L 8 = true → s 176 = .tuple #[.agg #[.bool false, .int .i64 0], .bool false]
  v9 : L 9 = true → s 167 = .tuple #[.agg #[.bool false, .int .i64 0], .bool false]
  v10 : L 10 = true → s 177 = .agg #[.bool false, .int .i64 0]
  v11 : L 11 = true → s 178 = .bool false
  v14 : L 14 = true → s 27 = .bool false
  mm : M W F8 m T
  mv : Mov F7 F8 wz W
  k13 : L 13 = true → L 12 = true
  za : L 12 = true → L 13 = false → ∃ g, s 26 = .pointer (some ⟨g, 0, none⟩) ∧ wz.heap.size ≤ g ∧ Blk W g 40 #[.bool false, .int .i64 0] ∧ ¬ F8 g
def frN (m g11 c : Nat) (a2 : Int) (u s : Nat → Value) : Act := { tmps := #[u 0, u 1, .int .i64 a2, u 3, u 4, u 5, u 6, .pointer (some ⟨m, 0, none⟩), u 8, .int .i64 c, u 10, .pointer (some ⟨g11, 0, none⟩), u 12, u 13, u 14, u 15, u 16, u 17, u 18, u 19, u 20, u 21, u 22, u 23, u 24, u 25, s 26, s 27, u 28, u 29, u 30, u 31, u 32, u 33, u 34, u 35, u 36, u 37, u 38, u 39, u 40, u 41, u 42, u 43, u 44, u 45, u 46, u 47, u 48, u 49, u 50, u 51, u 52, u 53, u 54, u 55, u 56, u 57, u 58, u 59, u 60, u 61, u 62, u 63, u 64, u 65, u 66, u 67, u 68, u 69, u 70, u 71, u 72, u 73, u 74, u 75, u 76, u 77, u 78, u 79, u 80, u 81, u 82, u 83, u 84, u 85, u 86, u 87, u 88, u 89, u 90, u 91, u 92, u 93, u 94, u 95, u 96, u 97, u 98, u 99, u 100, u 101, u 102, u 103, u 104, u 105, u 106, u 107, u 108, u 109, u 110, u 111, u 112, u 113, u 114, u 115, u 116, u 117, u 118, u 119, u 120, u 121, u 122, u 123, u 124, u 125, u 126, u 127, u 128, u 129, u 130, u 131, u 132, u 133, u 134, u 135, u 136, u 137, u 138, u 139, u 140, u 141, u 142, u 143, u 144, u 145, u 146, u 147, u 148, u 149, u 150, u 151, u 152, u 153, u 154, u 155, u 156, u 157, u 158, u 159, u 160, u 161, u 162, u 163, u 164, u 165, u 166, s 167, s 168, s 169, s 170, s 171, s 172, s 173, s 174, s 175, s 176, s 177, s 178, u 179, u 180, u 181, u 182, u 183, u 184, u 185, u 186, u 187, u 188, u 189, u 190, u 191, u 192, u 193, u 194, u 195, u 196], defers := [] }
def NInv (wz : World) (m g11 c : Nat) (T : MS) (F7 : Nat → Prop) (a2 no : Int) (r : Nat) (u : Nat → Value) (listed : Array Bool) (act : Act) (W : World) : Prop :=
  ∃ L : Nat → Bool, (∀ k, listed.getD k false = L k) ∧ ∃ (s : Nat → Value) (F8 : Nat → Prop), act = frN m g11 c a2 u s ∧ listed.size = 15 ∧ NI wz m g11 T F7 F8 a2 no r L s W
def noV (r : Nat) : Int := if r = 0 then 0 else if r = 1 then 19 else if r = 2 then 22 else 23
set_option maxRecDepth 100000 in
set_option maxHeartbeats 4000000 in
theorem thingNews (a0 a1 a2 : Int) (w0 : (Lit.int .i64 a0).wf = true) (w1 : (Lit.int .i64 a1).wf = true) (w2 : (Lit.int .i64 a2).wf = true) (w : World) :
    Calls Tryz.prog 9 #[.int .i64 a0, .int .i64 a1, .int .i64 a2] w fun e w' => e = .returned (.bool true) ∧ Below w.heap.size w w' := by
  obtain ⟨x1, x2⟩ := bounds_i64 w0
  obtain ⟨x3, x4⟩ := bounds_i64 w1
  obtain ⟨x5, x6⟩ := bounds_i64 w2
  clear w0 w1 w2
  obtain ⟨c, hc⟩ : ∃ k : Nat, 3 + a0 % 16 = (k : Int) := ⟨(3 + a0 % 16).toNat, by omega⟩
  obtain ⟨k, hk⟩ : ∃ k : Nat, a1 % 30 = (k : Int) := ⟨(a1 % 30).toNat, by omega⟩
  obtain ⟨r, hr⟩ : ∃ k : Nat, a2 % 4 = (k : Int) := ⟨(a2 % 4).toNat, by omega⟩
  have c3 : 3 ≤ c := by omega
  have c19 : c < 19 := by omega
  have k30 : k < 30 := by omega
  have r4 : r < 4 := by omega
  have HC := Lib.hid hc
  have HK := Lib.hid hk
  have HR := Lib.hid hr
  have HF := Lib.hid (@first_ w)
  have HN := Lib.hid lnum
  have HO := Lib.hid lobj
  unfold val num at HN
  unfold val objV at HO
  have TT := Lib.hid (tn c k c3 c19 k30)
  have AW := Lib.hid awake18
  clear hc hk hr
  go_enter Tryz.func9, Tryz.ntmps9
  go_wp2_with fail
  refine HF.out.mono ?_
  clear HF
  rintro e wa ⟨x, rfl, b1, xa⟩
  have CN := Lib.hid (objnew (W := firstW) (b1.at_ (nums_of_check first_check)) first_check rfl 5)
  have XA := Lib.hid xa
  clear b1 xa
  generalize cellsW firstW x = cs at *
  go_wp2_with fail
  refine CN.out.mono ?_
  rintro e wb ⟨m, F, rfl, mb, hF, xb⟩
  have XB := Lib.hid (XA.out.trans xb)
  have FL : Hid (∀ k, F k → w.heap.size ≤ k) := Lib.hid (fun k hk => by have := hF k hk; have := XA.out.below.size; omega)
  have mb : M wb F m T0 := mb
  have C26 : Hid (∀ W [x : IsExt wb W], Calls Tryz.prog 27 #[.pointer (some ⟨m, 0, none⟩), .int .i64 26, .agg #[.bool true, .int .i64 c], .slice none 0 0] W fun e w' => e = .returned (.tuple #[.agg #[.bool true, .int .i64 23], .bool true]) ∧ Goes F m (T1 c) W w') := Lib.hid (fun W x => pop0 (mb.ext x.out) 26 (.inr (.inr (.inr rfl))) true c (.inl rfl) TT.out.a3 true true 23 (fun W' x' => by
    have q := pa26 ((mb.ext x.out).ext x') (by rw [TT.out.p0]; decide) c
    rw [TT.out.a1, TT.out.a2] at q
    exact q))
  have ib : IsExt wb wb := ⟨Ext.refl _⟩
  clear mb hF xb CN XA
  go_wp2_with (go_at_call 13; refine (Word.place _ _ _ (by omega) (by omega) (by omega) (by omega)).mono ?_; rintro e w' ⟨rfl, rfl⟩)
  rw [HC.out, HK.out]
  refine (HO.out _ _).mono ?_
  rintro e wc ⟨rfl, xc⟩
  have ic : IsExt wb wc := ⟨xc⟩
  clear xc ib
  go_wp2_with fail
  refine (C26.out _).mono ?_
  rintro e wd ⟨rfl, F4, m4, v4⟩
  have V4 := Lib.hid ((Mov.of_ext ic.out).trans v4)
  have M4 := Lib.hid m4
  have iD : IsExt wd wd := ⟨Ext.refl _⟩
  clear v4 m4 C26 ic
  go_wp2_with fail
  refine (HO.out _ _).mono ?_
  rintro e we ⟨rfl, xe⟩
  have B11 := Lib.hid ((Blk.new wd 40 #[.bool true, .int .i64 23]).ext xe)
  have ie : IsExt wd we := ⟨((Ext.refl wd).alloc _).trans xe⟩
  clear xe iD
  go_wp2_with fail
  refine (HN.out _ _).mono ?_
  rintro e wf ⟨rfl, xf⟩
  replace B11 := Lib.hid (B11.out.ext xf)
  have iF : IsExt wd wf := ⟨ie.out.trans xf⟩
  clear xf ie
  go_wp2_with fail
  refine calls_name (fun wg hW => ?_)
  have xg : Ext wf wg := by rw [hW]; exact is_ext _ _
  have bs : Blk wg wf.heap.size 40 #[.bool false, .int .i64 k] := by rw [hW]; exact Blk.new _ _ _
  have b11 := B11.out.ext xg
  have xdg : Ext wd wg := iF.out.trans xg
  have C27 := pop27 (M4.out.ext xdg) (by rw [TT.out.p1]; decide) c k TT.out.b3 TT.out.b4 wf.heap.size 1 bs
  rw [TT.out.b1, TT.out.b2] at C27
  replace C27 := Lib.hid C27
  have VG := Lib.hid (V4.out.ext xdg)
  have nF4 : ¬ F4 wd.heap.size := fun hf => by have := M4.out.lt _ hf; omega
  have BB := Lib.hid b11
  have NN := Lib.hid nF4
  clear hW xg bs b11 xdg nF4 M4 V4 iF B11
  generalize wd.heap.size = g11 at *
  generalize wf.heap.size = gs at *
  refine C27.out.mono ?_
  rintro e wh ⟨rfl, F7, m7, v7⟩
  obtain ⟨b11, nF⟩ := v7.blk BB.out NN.out
  have N11 := Lib.hid nF
  have VH := VG.out.trans v7
  have m7 : M wh F7 m (T2 c k) := m7
  have XH : Hid (Ext w wh) := Lib.hid (Ext.of_below (Keep.below XB.out.below VH.keep XB.out.below.size (fun i hi h => by have := FL.out i h; omega)))
  have FL7 : Hid (∀ k, F7 k → w.heap.size ≤ k) := Lib.hid (fun k hk => by
    rcases VH.new k hk with h | h
    · exact FL.out k h
    · have := XB.out.below.size; omega)
  have B11 := Lib.hid b11
  have M7 := Lib.hid m7
  clear v7 m7 C27 VG BB NN VH b11 nF FL XB
  go_upto_region 8 with (fail)
  refine wp_name (fun wz hW => ?_)
  have xz : Ext wh wz := by rw [hW]; exact is_ext _ _
  have MZ := Lib.hid (M7.out.ext xz)
  have XZ := Lib.hid (XH.out.trans xz)
  have BX11 := Lib.hid (B11.out.ext xz)
  have BX13 : Hid (Blk wz wh.heap.size 40 #[.bool true, .int .i64 24]) := Lib.hid (by rw [hW]; exact Blk.new _ _ _)
  clear hW xz M7 XH B11
  generalize wh.heap.size = g13 at *
  have iz : IsExt wz wz := ⟨Ext.refl _⟩
  obtain ⟨p1, p2, p3⟩ := BX11.out.rules
  obtain ⟨q1, q2, q3⟩ := BX13.out.rules
  have C15 := Lib.hid (fun W [x : IsExt wz W] => pop0r (MZ.out.ext x.out) 22 (.inr (.inl rfl)) true 23 (.inl rfl) TT.out.c6 false true ((T2 c k).hash 23) (fun W' x' => pa22 ((MZ.out.ext x.out).ext x') 23))
  go_wp2_with fail
  refine (C15.out _).mono ?_
  rintro e wq15 ⟨rfl, xq⟩
  have iq15 : IsExt wz wq15 := ⟨(is_ext wz _).trans xq⟩
  clear xq C15
  go_upto_region 9 with (fail)
  refine wp_name (fun wr15 hW => ?_)
  have xr : Ext wq15 wr15 := by rw [hW]; exact is_ext _ _
  have ir15 : IsExt wz wr15 := ⟨iq15.out.trans xr⟩
  have B15 : Hid (Blk wr15 wq15.heap.size 40 #[.bool false, .int .i64 ((T2 c k).hash 23)]) := Lib.hid (by rw [hW]; exact Blk.new _ _ _)
  clear hW xr iq15 iz
  generalize wq15.heap.size = g15 at *
  clear p1 p2 p3 q1 q2 q3
  obtain ⟨p1, p2, p3⟩ := (BX11.out.ext ir15.out).rules
  obtain ⟨q1, q2, q3⟩ := (BX13.out.ext ir15.out).rules
  have C17 := Lib.hid (fun W [x : IsExt wz W] => pop0r (MZ.out.ext x.out) 22 (.inr (.inl rfl)) true 24 (.inl rfl) TT.out.c7 false true ((T2 c k).hash 24) (fun W' x' => pa22 ((MZ.out.ext x.out).ext x') 24))
  go_wp2_with fail
  refine (C17.out _).mono ?_
  rintro e wq17 ⟨rfl, xq⟩
  have iq17 : IsExt wz wq17 := ⟨(is_ext wz _).trans xq⟩
  replace B15 := Lib.hid (B15.out.ext xq)
  clear xq C17
  go_upto_region 10 with (fail)
  refine wp_name (fun wr17 hW => ?_)
  have xr : Ext wq17 wr17 := by rw [hW]; exact is_ext _ _
  have ir17 : IsExt wz wr17 := ⟨iq17.out.trans xr⟩
  have B17 : Hid (Blk wr17 wq17.heap.size 40 #[.bool false, .int .i64 ((T2 c k).hash 24)]) := Lib.hid (by rw [hW]; exact Blk.new _ _ _)
  replace B15 := Lib.hid (B15.out.ext xr)
  clear hW xr iq17 ir15
  generalize wq17.heap.size = g17 at *
  clear p1 p2 p3 q1 q2 q3
  obtain ⟨p1, p2, p3⟩ := (BX11.out.ext ir17.out).rules
  obtain ⟨q1, q2, q3⟩ := (BX13.out.ext ir17.out).rules
  have C19 := Lib.hid (fun W [x : IsExt wz W] => pop0r (MZ.out.ext x.out) 23 (.inr (.inr (.inl rfl))) true 23 (.inl rfl) TT.out.c6 false true ((T2 c k).size 23) (fun W' x' => pa23 ((MZ.out.ext x.out).ext x') 23))
  go_wp2_with fail
  refine (C19.out _).mono ?_
  rintro e wq19 ⟨rfl, xq⟩
  have iq19 : IsExt wz wq19 := ⟨(is_ext wz _).trans xq⟩
  replace B15 := Lib.hid (B15.out.ext xq)
  replace B17 := Lib.hid (B17.out.ext xq)
  clear xq C19
  go_upto_region 11 with (fail)
  refine wp_name (fun wr19 hW => ?_)
  have xr : Ext wq19 wr19 := by rw [hW]; exact is_ext _ _
  have ir19 : IsExt wz wr19 := ⟨iq19.out.trans xr⟩
  have B19 : Hid (Blk wr19 wq19.heap.size 40 #[.bool false, .int .i64 ((T2 c k).size 23)]) := Lib.hid (by rw [hW]; exact Blk.new _ _ _)
  replace B15 := Lib.hid (B15.out.ext xr)
  replace B17 := Lib.hid (B17.out.ext xr)
  clear hW xr iq19 ir17
  generalize wq19.heap.size = g19 at *
  clear p1 p2 p3 q1 q2 q3
  obtain ⟨p1, p2, p3⟩ := (BX11.out.ext ir19.out).rules
  obtain ⟨q1, q2, q3⟩ := (BX13.out.ext ir19.out).rules
  have C21 := Lib.hid (fun W [x : IsExt wz W] => pop0r (MZ.out.ext x.out) 23 (.inr (.inr (.inl rfl))) true 24 (.inl rfl) TT.out.c7 false true ((T2 c k).size 24) (fun W' x' => pa23 ((MZ.out.ext x.out).ext x') 24))
  go_wp2_with fail
  refine (C21.out _).mono ?_
  rintro e wq21 ⟨rfl, xq⟩
  have iq21 : IsExt wz wq21 := ⟨(is_ext wz _).trans xq⟩
  replace B15 := Lib.hid (B15.out.ext xq)
  replace B17 := Lib.hid (B17.out.ext xq)
  replace B19 := Lib.hid (B19.out.ext xq)
  clear xq C21
  go_upto_region 12 with (fail)
  refine wp_name (fun wr21 hW => ?_)
  have xr : Ext wq21 wr21 := by rw [hW]; exact is_ext _ _
  have ir21 : IsExt wz wr21 := ⟨iq21.out.trans xr⟩
  have B21 : Hid (Blk wr21 wq21.heap.size 40 #[.bool false, .int .i64 ((T2 c k).size 24)]) := Lib.hid (by rw [hW]; exact Blk.new _ _ _)
  replace B15 := Lib.hid (B15.out.ext xr)
  replace B17 := Lib.hid (B17.out.ext xr)
  replace B19 := Lib.hid (B19.out.ext xr)
  clear hW xr iq21 ir19
  generalize wq21.heap.size = g21 at *
  clear p1 p2 p3 q1 q2 q3
  obtain ⟨p1, p2, p3⟩ := (BX11.out.ext ir21.out).rules
  obtain ⟨q1, q2, q3⟩ := (BX13.out.ext ir21.out).rules
  have C23 := Lib.hid (fun W [x : IsExt wz W] => pop0r (MZ.out.ext x.out) 21 (.inl rfl) true 24 (.inl rfl) TT.out.c7 true true ((T2 c k).cls 24) (fun W' x' => pa21 ((MZ.out.ext x.out).ext x') 24))
  go_wp2_with fail
  refine (C23.out _).mono ?_
  rintro e wq23 ⟨rfl, xq⟩
  have iq23 : IsExt wz wq23 := ⟨(is_ext wz _).trans xq⟩
  replace B15 := Lib.hid (B15.out.ext xq)
  replace B17 := Lib.hid (B17.out.ext xq)
  replace B19 := Lib.hid (B19.out.ext xq)
  replace B21 := Lib.hid (B21.out.ext xq)
  clear xq C23
  go_upto_region 13 with (fail)
  refine wp_name (fun wr23 hW => ?_)
  have xr : Ext wq23 wr23 := by rw [hW]; exact is_ext _ _
  have ir23 : IsExt wz wr23 := ⟨iq23.out.trans xr⟩
  have B23 : Hid (Blk wr23 wq23.heap.size 40 #[.bool true, .int .i64 ((T2 c k).cls 24)]) := Lib.hid (by rw [hW]; exact Blk.new _ _ _)
  replace B15 := Lib.hid (B15.out.ext xr)
  replace B17 := Lib.hid (B17.out.ext xr)
  replace B19 := Lib.hid (B19.out.ext xr)
  replace B21 := Lib.hid (B21.out.ext xr)
  clear hW xr iq23 ir21
  generalize wq23.heap.size = g23 at *
  clear p1 p2 p3 q1 q2 q3
  obtain ⟨p1, p2, p3⟩ := (BX11.out.ext ir23.out).rules
  obtain ⟨q1, q2, q3⟩ := (BX13.out.ext ir23.out).rules
  obtain ⟨s, hs⟩ : ∃ s, (T2 c k).size 23 = s := ⟨_, rfl⟩
  obtain ⟨t, ht⟩ : ∃ s, (T2 c k).size 24 = s := ⟨_, rfl⟩
  have hsb := TT.out.c8
  rw [hs] at hsb
  rw [TT.out.c1] at B15
  rw [TT.out.c2] at B17
  rw [hs] at B19
  rw [ht] at B21
  rw [TT.out.c5] at B23
  have h1 := TT.out.c3
  have h2 := TT.out.c4
  rw [hs, ht] at h1 h2
  have i16 := ir23
  have N11 : Hid (¬ F7 g11) := N11
  have no_ok : (T2 c k).makeOK (noV r) 0 = false := by
    unfold noV; split
    · exact TT.out.d1
    · split
      · exact TT.out.d2
      · split
        · exact TT.out.d3
        · exact TT.out.d4
  have no_may : (T2 c k).may ⟨true, noV r⟩ = true := by
    unfold noV; split
    · exact TT.out.d5
    · split
      · exact TT.out.d6
      · split
        · exact TT.out.d7
        · exact TT.out.c6
  have C16 : Hid (∀ W F', M W F' m (T2 c k) → Calls Tryz.prog 27 #[.pointer (some ⟨m, 0, none⟩), .int .i64 26, .agg #[.bool true, .int .i64 (noV r)], .slice none 0 0] W fun e w' => e = .returned (.tuple #[.agg #[.bool false, .int .i64 0], .bool false]) ∧ Goes F' m (T2 c k) W w') := Lib.hid (fun W F' hM => pop0 hM 26 (.inr (.inr (.inr rfl))) true (noV r) (.inl rfl) no_may false false 0 (fun W' x' => by
    have q := pa26 (hM.ext x') (by rw [TT.out.p2]; decide) (noV r)
    have e1 : (T2 c k).makeId (noV r) 0 = 0 := by unfold MS.makeId; rw [no_ok]; rfl
    have e2 : (T2 c k).make (noV r) 0 = T2 c k := by unfold MS.make; rw [no_ok]; rfl
    rw [no_ok, e1, e2] at q
    exact q))
  have IDX : ∀ W, (Instr.index 68 (.agg #[.int .i64 0, .int .i64 19, .int .i64 22, .int .i64 23]) (.int .i64 (r : Int))).run Tryz.prog W = .ok (.int .i64 (noV r)) W := fun W => by
    rcases (show r = 0 ∨ r = 1 ∨ r = 2 ∨ r = 3 by omega) with rfl | rfl | rfl | rfl
    · kernel_rfl
    · kernel_rfl
    · kernel_rfl
    · kernel_rfl
  have hcase : ((c : Int) == 8) = true ∧ s = 0 ∧ t = k ∨ ((c : Int) == 8) = false ∧ ((c : Int) == 9) = true ∧ s = 0 ∧ t = k ∨ ((c : Int) == 8) = false ∧ ((c : Int) == 9) = false ∧ t = s + k := by
    by_cases c8 : c = 8
    · obtain ⟨a, b⟩ := h1 (.inl c8); exact .inl ⟨beq_iff_eq.2 (by omega), a, b⟩
    · by_cases c9 : c = 9
      · obtain ⟨a, b⟩ := h1 (.inr c9); exact .inr (.inl ⟨beq_eq_false_iff_ne.2 (by omega), beq_iff_eq.2 (by omega), a, b⟩)
      · exact .inr (.inr ⟨beq_eq_false_iff_ne.2 (by omega), beq_eq_false_iff_ne.2 (by omega), h2 (by omega)⟩)
  obtain ⟨e1, e2, e3⟩ := B15.out.rules
  obtain ⟨f1, f2, f3⟩ := B17.out.rules
  obtain ⟨j1, j2, j3⟩ := B19.out.rules
  obtain ⟨l1, l2, l3⟩ := B21.out.rules
  obtain ⟨n1, n2, n3⟩ := B23.out.rules
  generalize noV r = no at *
  clear h1 h2 hs ht no_ok no_may B15 B17 B19 B21 B23 c3 c19 q1 q2 q3
  rcases hcase with ⟨d8, rfl, rfl⟩ | ⟨d8, d9, rfl, rfl⟩ | ⟨d8, d9, rfl⟩
  · go_upto_region 16 with (fail)
    all_goals try (rename_i h1 h2 h3 h4; exfalso; injection h1 with h1; unfold undef at h1; cases h1)
    clear e1 e2 e3 f1 f2 f3 j1 j2 j3 l1 l2 l3 n1 n2 n3 p1 p2 p3
    refine wp_any_act (fun A hA => ?_)
    have eA : A = frN m g11 c a2 (fun q => A.tmps.getD q undef) (fun q => A.tmps.getD q undef) := by rw [hA]; rfl
    clear hA
    generalize (fun q => A.tmps.getD q undef) = u at eA
    subst eA
    refine wp_region_inv (Inv := NInv wz m g11 c (T2 c k) F7 a2 no r u) (by kernel_rfl) ?_ ?_ ?_
    · refine ⟨fun _ => false, fun k => ?_, u, F7, rfl, by simp, ⟨?_, ?_, ?_, ?_, ?_, ?_, ?_, ?_, ?_, ?_, ?_, ?_, ?_, ?_, ?_, ?_, ?_⟩⟩
      · rw [Array.getD_eq_getD_getElem?, Array.getElem?_replicate]; split <;> rfl
      · intro h; exact absurd h (by decide)
      · intro h; exact absurd h (by decide)
      · intro h; exact absurd h (by decide)
      · intro h; exact absurd h (by decide)
      · intro h; exact absurd h (by decide)
      · intro h; exact absurd h (by decide)
      · intro h; exact absurd h (by decide)
      · intro h; exact absurd h (by decide)
      · intro h; exact absurd h (by decide)
      · intro h; exact absurd h (by decide)
      · intro h; exact absurd h (by decide)
      · intro h; exact absurd h (by decide)
      · intro h; exact absurd h (by decide)
      · exact (MZ.out.ext i16.out).ext ((Ext.refl _).drew)
      · exact Mov.of_ext (i16.out.trans ((Ext.refl _).drew))
      · intro h; exact absurd h (by decide)
      · intro h; exact absurd h (by decide)
    · rintro listed act W ii ⟨L, hL, s, F8, rfl, hsz, I⟩ hi
      obtain ⟨hlt, hnot, hdep⟩ := (ready_iff _ _).1 hi
      have hiN : ii < 15 := hlt
      have casesN : ii = 0 ∨ ii = 1 ∨ ii = 2 ∨ ii = 3 ∨ ii = 4 ∨ ii = 5 ∨ ii = 6 ∨ ii = 7 ∨ ii = 8 ∨ ii = 9 ∨ ii = 10 ∨ ii = 11 ∨ ii = 12 ∨ ii = 13 ∨ ii = 14 := by omega
      have hn0 : L ii = false := by rw [← hL ii]; exact not_bit hnot
      clear hi hlt hiN hnot
      obtain ⟨b11, n11⟩ := I.mv.blk BX11.out N11.out
      obtain ⟨p1, p2, p3⟩ := b11.rules
      have hfz := I.mv.keep.size
      unfold frN
      rcases casesN with rfl | rfl | rfl | rfl | rfl | rfl | rfl | rfl | rfl | rfl | rfl | rfl | rfl | rfl | rfl
      · -- operation 0
        simp only [Region.binds, listed_bit hL] at hdep
        refine wpOp_step rfl (fun K' hK => ?_)
        go_simp
        exact hK _ _ ⟨_, bit_set hL hsz 0 (by omega), fun j => if j = 168 then .pointer (some ⟨m, 0, none⟩) else s j, F8, by first | (simp [frN]; done) | (simp [frN]; rfl), by simpa using hsz, ⟨fun _ => rfl, I.v1, I.v2, I.v3, I.v4, I.v5, I.v6, I.v7, I.v8, I.v9, I.v10, I.v11, I.v14, I.mm, I.mv, I.k13, I.za⟩⟩
      · -- operation 1
        simp only [Region.binds, listed_bit hL] at hdep
        refine wpOp_step rfl (fun K' hK => ?_)
        go_simp
        exact hK _ _ ⟨_, bit_set hL hsz 1 (by omega), fun j => if j = 169 then .pointer (some ⟨g11, 1, none⟩) else s j, F8, by first | (simp [frN]; done) | (simp [frN]; rfl), by simpa using hsz, ⟨I.v0, fun _ => rfl, I.v2, I.v3, I.v4, I.v5, I.v6, I.v7, I.v8, I.v9, I.v10, I.v11, I.v14, I.mm, I.mv, I.k13, I.za⟩⟩
      · -- operation 2
        simp only [Region.binds, listed_bit hL] at hdep
        have d1 : L 1 = true := by first | simpa [hL] using hdep | (simp [hL, Region.binds] at hdep; simp [hdep])
        have e1 := I.v1 d1
        refine wpOp_step rfl (fun K' hK => ?_)
        rw [e1]
        go_simp
        exact hK _ _ ⟨_, bit_set hL hsz 2 (by omega), fun j => if j = 170 then .int .i64 23 else s j, F8, by first | (simp [frN, e1]; done) | (simp [frN, e1]; rfl), by simpa using hsz, ⟨I.v0, I.v1, fun _ => rfl, I.v3, I.v4, I.v5, I.v6, I.v7, I.v8, I.v9, I.v10, I.v11, I.v14, I.mm, I.mv, I.k13, I.za⟩⟩
      · -- operation 3
        simp only [Region.binds, listed_bit hL] at hdep
        have d2 : L 2 = true := by first | simpa [hL] using hdep | (simp [hL, Region.binds] at hdep; simp [hdep])
        have e2 := I.v2 d2
        refine wpOp_step rfl (fun K' hK => ?_)
        rw [e2]
        go_simp
        exact hK _ _ ⟨_, bit_set hL hsz 3 (by omega), fun j => if j = 171 then .agg #[.int .i64 0, .int .i64 19, .int .i64 22, .int .i64 23] else s j, F8, by first | (simp [frN, e2]; done) | (simp [frN, e2]; rfl), by simpa using hsz, ⟨I.v0, I.v1, I.v2, fun _ => rfl, I.v4, I.v5, I.v6, I.v7, I.v8, I.v9, I.v10, I.v11, I.v14, I.mm, I.mv, I.k13, I.za⟩⟩
      · -- operation 4
        simp only [Region.binds, listed_bit hL] at hdep
        refine wpOp_step rfl (fun K' hK => ?_)
        go_simp
        exact hK _ _ ⟨_, bit_set hL hsz 4 (by omega), fun j => if j = 172 then .int .i64 a2 else s j, F8, by first | (simp [frN]; done) | (simp [frN]; rfl), by simpa using hsz, ⟨I.v0, I.v1, I.v2, I.v3, fun _ => rfl, I.v5, I.v6, I.v7, I.v8, I.v9, I.v10, I.v11, I.v14, I.mm, I.mv, I.k13, I.za⟩⟩
      · -- operation 5
        simp only [Region.binds, listed_bit hL] at hdep
        have d4 : L 4 = true := by first | simpa [hL] using hdep | (simp [hL, Region.binds] at hdep; simp [hdep])
        have e4 := I.v4 d4
        refine wpOp_step rfl (fun K' hK => ?_)
        rw [e4]
        go_simp
        refine (Word.place _ _ _ (by omega) (by omega) (by omega) (by omega)).mono ?_
        rintro e w3 ⟨rfl, rfl⟩
        rw [HR.out]
        exact hK _ _ ⟨_, bit_set hL hsz 5 (by omega), fun j => if j = 173 then .int .i64 r else s j, F8, by first | (simp [frN, e4]; done) | (simp [frN, e4]; rfl), by simpa using hsz, ⟨I.v0, I.v1, I.v2, I.v3, I.v4, fun _ => rfl, I.v6, I.v7, I.v8, I.v9, I.v10, I.v11, I.v14, I.mm, I.mv, I.k13, I.za⟩⟩
      · -- operation 6
        simp only [Region.binds, listed_bit hL] at hdep
        have d3 : L 3 = true := by first | simpa [hL] using hdep | (simp [hL, Region.binds] at hdep; simp [hdep])
        have e3 := I.v3 d3
        have d5 : L 5 = true := by first | simpa [hL] using hdep | (simp [hL, Region.binds] at hdep; simp [hdep])
        have e5 := I.v5 d5
        refine wpOp_step rfl (fun K' hK => ?_)
        rw [e3, e5]
        go_simp
        exact hK _ _ ⟨_, bit_set hL hsz 6 (by omega), fun j => if j = 174 then .int .i64 no else s j, F8, by first | (simp [frN, e3, e5]; done) | (simp [frN, e3, e5]; rfl), by simpa using hsz, ⟨I.v0, I.v1, I.v2, I.v3, I.v4, I.v5, fun _ => rfl, I.v7, I.v8, I.v9, I.v10, I.v11, I.v14, I.mm, I.mv, I.k13, I.za⟩⟩
      · -- operation 7
        simp only [Region.binds, listed_bit hL] at hdep
        have d6 : L 6 = true := by first | simpa [hL] using hdep | (simp [hL, Region.binds] at hdep; simp [hdep])
        have e6 := I.v6 d6
        refine wpOp_step rfl (fun K' hK => ?_)
        rw [e6]
        go_simp
        refine (HO.out _ _).mono ?_
        rintro e w3 ⟨rfl, x3⟩
        exact hK _ _ ⟨_, bit_set hL hsz 7 (by omega), fun j => if j = 175 then .agg #[.bool true, .int .i64 no] else s j, F8, by first | (simp [frN, e6]; done) | (simp [frN, e6]; rfl), by simpa using hsz, ⟨I.v0, I.v1, I.v2, I.v3, I.v4, I.v5, I.v6, fun _ => rfl, I.v8, I.v9, I.v10, I.v11, I.v14, I.mm.ext x3, I.mv.ext x3, I.k13, fun h1 h2 => by obtain ⟨g, y1, y2, y3, y4⟩ := I.za h1 h2; exact ⟨g, y1, y2, y3.ext x3, y4⟩⟩⟩
      · -- operation 8
        simp only [Region.binds, listed_bit hL] at hdep
        have d0 : L 0 = true := by first | simpa [hL] using hdep | (simp [hL, Region.binds] at hdep; simp [hdep])
        have e0 := I.v0 d0
        have d7 : L 7 = true := by first | simpa [hL] using hdep | (simp [hL, Region.binds] at hdep; simp [hdep])
        have e7 := I.v7 d7
        refine wpOp_step rfl (fun K' hK => ?_)
        rw [e0, e7]
        go_simp
        refine (C16.out _ _ I.mm).mono ?_
        rintro e w3 ⟨rfl, F9, m9, v9⟩
        exact hK _ _ ⟨_, bit_set hL hsz 8 (by omega), fun j => if j = 176 then .tuple #[.agg #[.bool false, .int .i64 0], .bool false] else s j, F9, by first | (simp [frN, e0, e7]; done) | (simp [frN, e0, e7]; rfl), by simpa using hsz, ⟨I.v0, I.v1, I.v2, I.v3, I.v4, I.v5, I.v6, I.v7, fun _ => rfl, I.v9, I.v10, I.v11, I.v14, m9, I.mv.trans v9, I.k13, fun h1 h2 => by obtain ⟨g, y1, y2, y3, y4⟩ := I.za h1 h2; obtain ⟨z1, z2⟩ := v9.blk y3 y4; exact ⟨g, y1, y2, z1, z2⟩⟩⟩
      · -- operation 9
        simp only [Region.binds, listed_bit hL] at hdep
        have d8 : L 8 = true := by first | simpa [hL] using hdep | (simp [hL, Region.binds] at hdep; simp [hdep])
        have e8 := I.v8 d8
        refine wpOp_step rfl (fun K' hK => ?_)
        rw [e8]
        go_simp
        exact hK _ _ ⟨_, bit_set hL hsz 9 (by omega), fun j => if j = 167 then .tuple #[.agg #[.bool false, .int .i64 0], .bool false] else s j, F8, by first | (simp [frN, e8]; done) | (simp [frN, e8]; rfl), by simpa using hsz, ⟨I.v0, I.v1, I.v2, I.v3, I.v4, I.v5, I.v6, I.v7, I.v8, fun _ => rfl, I.v10, I.v11, I.v14, I.mm, I.mv, I.k13, I.za⟩⟩
      · -- operation 10
        simp only [Region.binds, listed_bit hL] at hdep
        have d9 : L 9 = true := by first | simpa [hL] using hdep | (simp [hL, Region.binds] at hdep; simp [hdep])
        have e9 := I.v9 d9
        refine wpOp_step rfl (fun K' hK => ?_)
        rw [e9]
        go_simp
        exact hK _ _ ⟨_, bit_set hL hsz 10 (by omega), fun j => if j = 177 then .agg #[.bool false, .int .i64 0] else s j, F8, by first | (simp [frN, e9]; done) | (simp [frN, e9]; rfl), by simpa using hsz, ⟨I.v0, I.v1, I.v2, I.v3, I.v4, I.v5, I.v6, I.v7, I.v8, I.v9, fun _ => rfl, I.v11, I.v14, I.mm, I.mv, I.k13, I.za⟩⟩
      · -- operation 11
        simp only [Region.binds, listed_bit hL] at hdep
        have d9 : L 9 = true := by first | simpa [hL] using hdep | (simp [hL, Region.binds] at hdep; simp [hdep])
        have e9 := I.v9 d9
        refine wpOp_step rfl (fun K' hK => ?_)
        rw [e9]
        go_simp
        exact hK _ _ ⟨_, bit_set hL hsz 11 (by omega), fun j => if j = 178 then .bool false else s j, F8, by first | (simp [frN, e9]; done) | (simp [frN, e9]; rfl), by simpa using hsz, ⟨I.v0, I.v1, I.v2, I.v3, I.v4, I.v5, I.v6, I.v7, I.v8, I.v9, I.v10, fun _ => rfl, I.v14, I.mm, I.mv, I.k13, I.za⟩⟩
      · -- operation 12
        simp only [Region.binds, listed_bit hL] at hdep
        have n13 : L 13 = false := by cases hh : L 13 with | false => rfl | true => rw [I.k13 hh] at hn0; cases hn0
        refine wpOp_step rfl (fun K' hK => ?_)
        go_simp
        exact hK _ _ ⟨_, bit_set hL hsz 12 (by omega), fun j => if j = 26 then .pointer (some ⟨W.heap.size, 0, none⟩) else s j, F8, by first | (simp [frN]; done) | (simp [frN]; rfl), by simpa using hsz, ⟨I.v0, I.v1, I.v2, I.v3, I.v4, I.v5, I.v6, I.v7, I.v8, I.v9, I.v10, I.v11, I.v14, I.mm.ext ((Ext.refl _).alloc _), I.mv.ext ((Ext.refl _).alloc _), fun _ => rfl, fun _ _ => ⟨_, rfl, hfz, Blk.new _ _ _, fun hf => by have := I.mm.lt _ hf; omega⟩⟩⟩
      · -- operation 13
        simp only [Region.binds, listed_bit hL] at hdep
        have d10 : L 10 = true := by first | simpa [hL] using hdep | (simp [hL, Region.binds] at hdep; simp [hdep])
        have e10 := I.v10 d10
        have d12 : L 12 = true := by first | simpa [hL] using hdep | (simp [hL, Region.binds] at hdep; simp [hdep])
        obtain ⟨g, e12, hg, hB, hnF⟩ := I.za d12 hn0
        obtain ⟨q1, q2, q3⟩ := hB.rules
        refine wpOp_step rfl (fun K' hK => ?_)
        rw [e10, e12]
        have IX := Lib.hid I
        have HNF := Lib.hid hnF
        clear I hB hnF
        go_simp
        exact hK _ _ ⟨_, bit_set hL hsz 13 (by omega), s, F8, by first | (simp [frN, e10, e12]; done) | (simp [frN, e10, e12]; rfl), by simpa using hsz, ⟨IX.out.v0, IX.out.v1, IX.out.v2, IX.out.v3, IX.out.v4, IX.out.v5, IX.out.v6, IX.out.v7, IX.out.v8, IX.out.v9, IX.out.v10, IX.out.v11, IX.out.v14, IX.out.mm.far (((Keep.refl (· = g) W).setCell (p := ⟨g, 0, none⟩) rfl _).setCell (p := ⟨g, 1, none⟩) rfl _) (fun j e hf => HNF.out (e ▸ hf)), ⟨(IX.out.mv.keep.setNew (p := ⟨g, 0, none⟩) hg _).setNew (p := ⟨g, 1, none⟩) hg _, IX.out.mv.new⟩, fun _ => d12, fun _ h => absurd h (by simp)⟩⟩
      · -- operation 14
        simp only [Region.binds, listed_bit hL] at hdep
        have d11 : L 11 = true := by first | simpa [hL] using hdep | (simp [hL, Region.binds] at hdep; simp [hdep])
        have e11 := I.v11 d11
        refine wpOp_step rfl (fun K' hK => ?_)
        rw [e11]
        go_simp
        exact hK _ _ ⟨_, bit_set hL hsz 14 (by omega), fun j => if j = 27 then .bool false else s j, F8, by first | (simp [frN, e11]; done) | (simp [frN, e11]; rfl), by simpa using hsz, ⟨I.v0, I.v1, I.v2, I.v3, I.v4, I.v5, I.v6, I.v7, I.v8, I.v9, I.v10, I.v11, fun _ => rfl, I.mm, I.mv, I.k13, I.za⟩⟩
    · rintro listed act W0 ⟨L, hL, s, F8, rfl, hsz, I⟩ hr
      have ALL : ∀ i, i < 15 → L i = true := fun i hi => by rw [← hL i]; exact all_listed_m (by kernel_rfl) hsz hr i hi
      have e27 := I.v14 (ALL 14 (by omega))
      have M8 := Lib.hid I.mm
      have V8 := Lib.hid I.mv
      clear I hL ALL hr hsz
      unfold frN
      dsimp only
      rw [e27]
      have C27n : Hid (∀ W [x : IsExt W0 W] gs, Blk W gs 40 #[.bool false, .int .i64 (-1)] → Calls Tryz.prog 27 #[.pointer (some ⟨m, 0, none⟩), .int .i64 27, .agg #[.bool true, .int .i64 c], .slice (some ⟨gs, 0, none⟩) 1 1] W fun e w' => e = .returned (.tuple #[.agg #[.bool false, .int .i64 0], .bool false]) ∧ Goes F8 m (T2 c k) W w') := Lib.hid (fun W x gs hb => by
        have q := pop27 (M8.out.ext x.out) (by rw [TT.out.p2]; decide) c (-1) TT.out.e2 TT.out.e3 gs 1 hb
        have e1 : (T2 c k).makeId c (-1) = 0 := by unfold MS.makeId; rw [TT.out.e1]; rfl
        have e2 : (T2 c k).make c (-1) = T2 c k := by unfold MS.make; rw [TT.out.e1]; rfl
        rw [TT.out.e1, e1, e2] at q
        exact q)
      have XW : Hid (Ext w W0) := Lib.hid (Ext.of_below (Keep.below XZ.out.below V8.out.keep XZ.out.below.size (fun i hi h => by have := FL7.out i h; omega)))
      have FL8 : Hid (∀ k, F8 k → w.heap.size ≤ k) := Lib.hid (fun k hk => by
        rcases V8.out.new k hk with h | h
        · exact FL7.out k h
        · have := XZ.out.below.size; omega)
      have j0 : IsExt W0 W0 := ⟨Ext.refl _⟩
      clear C16 IDX i16 MZ XZ BX11 BX13 N11 M8 V8
      go_wp2_with fail
      refine (HO.out _ _).mono ?_
      rintro e ws ⟨rfl, xs⟩
      have js : IsExt W0 ws := ⟨xs⟩
      clear xs j0
      go_wp2_with fail
      refine (HN.out _ _).mono ?_
      rintro e wt ⟨rfl, xt⟩
      have jt : IsExt W0 wt := ⟨js.out.trans xt⟩
      clear xt js
      go_wp2_with fail
      refine calls_name (fun wu hW => ?_)
      have ju : IsExt W0 wu := ⟨by rw [hW]; exact jt.out.alloc _⟩
      have bu : Blk wu wt.heap.size 40 #[.bool false, .int .i64 (-1)] := by rw [hW]; exact Blk.new _ _ _
      have CU := Lib.hid (C27n.out wu _ bu)
      clear hW bu C27n jt
      refine CU.out.mono ?_
      rintro e wv ⟨rfl, F9, m9, v9⟩
      have XV : Hid (Ext w wv) := Lib.hid (Ext.of_below (Keep.below (XW.out.trans ju.out).below v9.keep (XW.out.trans ju.out).below.size (fun i hi h => by have := FL8.out i h; omega)))
      clear m9 v9 CU ju XW FL8
      go_wp2_with fail
      refine (AW.out _).mono ?_
      rintro e wx ⟨rfl, xx⟩
      go_wp2_with fail
      go_ret
      exact ⟨rfl, ((XV.out.alloc _).trans xx).below⟩
  · go_upto_region 16 with (fail)
    all_goals try (rename_i h1 h2 h3 h4; exfalso; injection h1 with h1; unfold undef at h1; cases h1)
    clear e1 e2 e3 f1 f2 f3 j1 j2 j3 l1 l2 l3 n1 n2 n3 p1 p2 p3
    refine wp_any_act (fun A hA => ?_)
    have eA : A = frN m g11 c a2 (fun q => A.tmps.getD q undef) (fun q => A.tmps.getD q undef) := by rw [hA]; rfl
    clear hA
    generalize (fun q => A.tmps.getD q undef) = u at eA
    subst eA
    refine wp_region_inv (Inv := NInv wz m g11 c (T2 c k) F7 a2 no r u) (by kernel_rfl) ?_ ?_ ?_
    · refine ⟨fun _ => false, fun k => ?_, u, F7, rfl, by simp, ⟨?_, ?_, ?_, ?_, ?_, ?_, ?_, ?_, ?_, ?_, ?_, ?_, ?_, ?_, ?_, ?_, ?_⟩⟩
      · rw [Array.getD_eq_getD_getElem?, Array.getElem?_replicate]; split <;> rfl
      · intro h; exact absurd h (by decide)
      · intro h; exact absurd h (by decide)
      · intro h; exact absurd h (by decide)
      · intro h; exact absurd h (by decide)
      · intro h; exact absurd h (by decide)
      · intro h; exact absurd h (by decide)
      · intro h; exact absurd h (by decide)
      · intro h; exact absurd h (by decide)
      · intro h; exact absurd h (by decide)
      · intro h; exact absurd h (by decide)
      · intro h; exact absurd h (by decide)
      · intro h; exact absurd h (by decide)
      · intro h; exact absurd h (by decide)
      · exact (MZ.out.ext i16.out).ext ((Ext.refl _).drew)
      · exact Mov.of_ext (i16.out.trans ((Ext.refl _).drew))
      · intro h; exact absurd h (by decide)
      · intro h; exact absurd h (by decide)
    · rintro listed act W ii ⟨L, hL, s, F8, rfl, hsz, I⟩ hi
      obtain ⟨hlt, hnot, hdep⟩ := (ready_iff _ _).1 hi
      have hiN : ii < 15 := hlt
      have casesN : ii = 0 ∨ ii = 1 ∨ ii = 2 ∨ ii = 3 ∨ ii = 4 ∨ ii = 5 ∨ ii = 6 ∨ ii = 7 ∨ ii = 8 ∨ ii = 9 ∨ ii = 10 ∨ ii = 11 ∨ ii = 12 ∨ ii = 13 ∨ ii = 14 := by omega
      have hn0 : L ii = false := by rw [← hL ii]; exact not_bit hnot
      clear hi hlt hiN hnot
      obtain ⟨b11, n11⟩ := I.mv.blk BX11.out N11.out
      obtain ⟨p1, p2, p3⟩ := b11.rules
      have hfz := I.mv.keep.size
      unfold frN
      rcases casesN with rfl | rfl | rfl | rfl | rfl | rfl | rfl | rfl | rfl | rfl | rfl | rfl | rfl | rfl | rfl
      · -- operation 0
        simp only [Region.binds, listed_bit hL] at hdep
        refine wpOp_step rfl (fun K' hK => ?_)
        go_simp
        exact hK _ _ ⟨_, bit_set hL hsz 0 (by omega), fun j => if j = 168 then .pointer (some ⟨m, 0, none⟩) else s j, F8, by first | (simp [frN]; done) | (simp [frN]; rfl), by simpa using hsz, ⟨fun _ => rfl, I.v1, I.v2, I.v3, I.v4, I.v5, I.v6, I.v7, I.v8, I.v9, I.v10, I.v11, I.v14, I.mm, I.mv, I.k13, I.za⟩⟩
      · -- operation 1
        simp only [Region.binds, listed_bit hL] at hdep
        refine wpOp_step rfl (fun K' hK => ?_)
        go_simp
        exact hK _ _ ⟨_, bit_set hL hsz 1 (by omega), fun j => if j = 169 then .pointer (some ⟨g11, 1, none⟩) else s j, F8, by first | (simp [frN]; done) | (simp [frN]; rfl), by simpa using hsz, ⟨I.v0, fun _ => rfl, I.v2, I.v3, I.v4, I.v5, I.v6, I.v7, I.v8, I.v9, I.v10, I.v11, I.v14, I.mm, I.mv, I.k13, I.za⟩⟩
      · -- operation 2
        simp only [Region.binds, listed_bit hL] at hdep
        have d1 : L 1 = true := by first | simpa [hL] using hdep | (simp [hL, Region.binds] at hdep; simp [hdep])
        have e1 := I.v1 d1
        refine wpOp_step rfl (fun K' hK => ?_)
        rw [e1]
        go_simp
        exact hK _ _ ⟨_, bit_set hL hsz 2 (by omega), fun j => if j = 170 then .int .i64 23 else s j, F8, by first | (simp [frN, e1]; done) | (simp [frN, e1]; rfl), by simpa using hsz, ⟨I.v0, I.v1, fun _ => rfl, I.v3, I.v4, I.v5, I.v6, I.v7, I.v8, I.v9, I.v10, I.v11, I.v14, I.mm, I.mv, I.k13, I.za⟩⟩
      · -- operation 3
        simp only [Region.binds, listed_bit hL] at hdep
        have d2 : L 2 = true := by first | simpa [hL] using hdep | (simp [hL, Region.binds] at hdep; simp [hdep])
        have e2 := I.v2 d2
        refine wpOp_step rfl (fun K' hK => ?_)
        rw [e2]
        go_simp
        exact hK _ _ ⟨_, bit_set hL hsz 3 (by omega), fun j => if j = 171 then .agg #[.int .i64 0, .int .i64 19, .int .i64 22, .int .i64 23] else s j, F8, by first | (simp [frN, e2]; done) | (simp [frN, e2]; rfl), by simpa using hsz, ⟨I.v0, I.v1, I.v2, fun _ => rfl, I.v4, I.v5, I.v6, I.v7, I.v8, I.v9, I.v10, I.v11, I.v14, I.mm, I.mv, I.k13, I.za⟩⟩
      · -- operation 4
        simp only [Region.binds, listed_bit hL] at hdep
        refine wpOp_step rfl (fun K' hK => ?_)
        go_simp
        exact hK _ _ ⟨_, bit_set hL hsz 4 (by omega), fun j => if j = 172 then .int .i64 a2 else s j, F8, by first | (simp [frN]; done) | (simp [frN]; rfl), by simpa using hsz, ⟨I.v0, I.v1, I.v2, I.v3, fun _ => rfl, I.v5, I.v6, I.v7, I.v8, I.v9, I.v10, I.v11, I.v14, I.mm, I.mv, I.k13, I.za⟩⟩
      · -- operation 5
        simp only [Region.binds, listed_bit hL] at hdep
        have d4 : L 4 = true := by first | simpa [hL] using hdep | (simp [hL, Region.binds] at hdep; simp [hdep])
        have e4 := I.v4 d4
        refine wpOp_step rfl (fun K' hK => ?_)
        rw [e4]
        go_simp
        refine (Word.place _ _ _ (by omega) (by omega) (by omega) (by omega)).mono ?_
        rintro e w3 ⟨rfl, rfl⟩
        rw [HR.out]
        exact hK _ _ ⟨_, bit_set hL hsz 5 (by omega), fun j => if j = 173 then .int .i64 r else s j, F8, by first | (simp [frN, e4]; done) | (simp [frN, e4]; rfl), by simpa using hsz, ⟨I.v0, I.v1, I.v2, I.v3, I.v4, fun _ => rfl, I.v6, I.v7, I.v8, I.v9, I.v10, I.v11, I.v14, I.mm, I.mv, I.k13, I.za⟩⟩
      · -- operation 6
        simp only [Region.binds, listed_bit hL] at hdep
        have d3 : L 3 = true := by first | simpa [hL] using hdep | (simp [hL, Region.binds] at hdep; simp [hdep])
        have e3 := I.v3 d3
        have d5 : L 5 = true := by first | simpa [hL] using hdep | (simp [hL, Region.binds] at hdep; simp [hdep])
        have e5 := I.v5 d5
        refine wpOp_step rfl (fun K' hK => ?_)
        rw [e3, e5]
        go_simp
        exact hK _ _ ⟨_, bit_set hL hsz 6 (by omega), fun j => if j = 174 then .int .i64 no else s j, F8, by first | (simp [frN, e3, e5]; done) | (simp [frN, e3, e5]; rfl), by simpa using hsz, ⟨I.v0, I.v1, I.v2, I.v3, I.v4, I.v5, fun _ => rfl, I.v7, I.v8, I.v9, I.v10, I.v11, I.v14, I.mm, I.mv, I.k13, I.za⟩⟩
      · -- operation 7
        simp only [Region.binds, listed_bit hL] at hdep
        have d6 : L 6 = true := by first | simpa [hL] using hdep | (simp [hL, Region.binds] at hdep; simp [hdep])
        have e6 := I.v6 d6
        refine wpOp_step rfl (fun K' hK => ?_)
        rw [e6]
        go_simp
        refine (HO.out _ _).mono ?_
        rintro e w3 ⟨rfl, x3⟩
        exact hK _ _ ⟨_, bit_set hL hsz 7 (by omega), fun j => if j = 175 then .agg #[.bool true, .int .i64 no] else s j, F8, by first | (simp [frN, e6]; done) | (simp [frN, e6]; rfl), by simpa using hsz, ⟨I.v0, I.v1, I.v2, I.v3, I.v4, I.v5, I.v6, fun _ => rfl, I.v8, I.v9, I.v10, I.v11, I.v14, I.mm.ext x3, I.mv.ext x3, I.k13, fun h1 h2 => by obtain ⟨g, y1, y2, y3, y4⟩ := I.za h1 h2; exact ⟨g, y1, y2, y3.ext x3, y4⟩⟩⟩
      · -- operation 8
        simp only [Region.binds, listed_bit hL] at hdep
        have d0 : L 0 = true := by first | simpa [hL] using hdep | (simp [hL, Region.binds] at hdep; simp [hdep])
        have e0 := I.v0 d0
        have d7 : L 7 = true := by first | simpa [hL] using hdep | (simp [hL, Region.binds] at hdep; simp [hdep])
        have e7 := I.v7 d7
        refine wpOp_step rfl (fun K' hK => ?_)
        rw [e0, e7]
        go_simp
        refine (C16.out _ _ I.mm).mono ?_
        rintro e w3 ⟨rfl, F9, m9, v9⟩
        exact hK _ _ ⟨_, bit_set hL hsz 8 (by omega), fun j => if j = 176 then .tuple #[.agg #[.bool false, .int .i64 0], .bool false] else s j, F9, by first | (simp [frN, e0, e7]; done) | (simp [frN, e0, e7]; rfl), by simpa using hsz, ⟨I.v0, I.v1, I.v2, I.v3, I.v4, I.v5, I.v6, I.v7, fun _ => rfl, I.v9, I.v10, I.v11, I.v14, m9, I.mv.trans v9, I.k13, fun h1 h2 => by obtain ⟨g, y1, y2, y3, y4⟩ := I.za h1 h2; obtain ⟨z1, z2⟩ := v9.blk y3 y4; exact ⟨g, y1, y2, z1, z2⟩⟩⟩
      · -- operation 9
        simp only [Region.binds, listed_bit hL] at hdep
        have d8 : L 8 = true := by first | simpa [hL] using hdep | (simp [hL, Region.binds] at hdep; simp [hdep])
        have e8 := I.v8 d8
        refine wpOp_step rfl (fun K' hK => ?_)
        rw [e8]
        go_simp
        exact hK _ _ ⟨_, bit_set hL hsz 9 (by omega), fun j => if j = 167 then .tuple #[.agg #[.bool false, .int .i64 0], .bool false] else s j, F8, by first | (simp [frN, e8]; done) | (simp [frN, e8]; rfl), by simpa using hsz, ⟨I.v0, I.v1, I.v2, I.v3, I.v4, I.v5, I.v6, I.v7, I.v8, fun _ => rfl, I.v10, I.v11, I.v14, I.mm, I.mv, I.k13, I.za⟩⟩
      · -- operation 10
        simp only [Region.binds, listed_bit hL] at hdep
        have d9 : L 9 = true := by first | simpa [hL] using hdep | (simp [hL, Region.binds] at hdep; simp [hdep])
        have e9 := I.v9 d9
        refine wpOp_step rfl (fun K' hK => ?_)
        rw [e9]
        go_simp
        exact hK _ _ ⟨_, bit_set hL hsz 10 (by omega), fun j => if j = 177 then .agg #[.bool false, .int .i64 0] else s j, F8, by first | (simp [frN, e9]; done) | (simp [frN, e9]; rfl), by simpa using hsz, ⟨I.v0, I.v1, I.v2, I.v3, I.v4, I.v5, I.v6, I.v7, I.v8, I.v9, fun _ => rfl, I.v11, I.v14, I.mm, I.mv, I.k13, I.za⟩⟩
      · -- operation 11
        simp only [Region.binds, listed_bit hL] at hdep
        have d9 : L 9 = true := by first | simpa [hL] using hdep | (simp [hL, Region.binds] at hdep; simp [hdep])
        have e9 := I.v9 d9
        refine wpOp_step rfl (fun K' hK => ?_)
        rw [e9]
        go_simp
        exact hK _ _ ⟨_, bit_set hL hsz 11 (by omega), fun j => if j = 178 then .bool false else s j, F8, by first | (simp [frN, e9]; done) | (simp [frN, e9]; rfl), by simpa using hsz, ⟨I.v0, I.v1, I.v2, I.v3, I.v4, I.v5, I.v6, I.v7, I.v8, I.v9, I.v10, fun _ => rfl, I.v14, I.mm, I.mv, I.k13, I.za⟩⟩
      · -- operation 12
        simp only [Region.binds, listed_bit hL] at hdep
        have n13 : L 13 = false := by cases hh : L 13 with | false => rfl | true => rw [I.k13 hh] at hn0; cases hn0
        refine wpOp_step rfl (fun K' hK => ?_)
        go_simp
        exact hK _ _ ⟨_, bit_set hL hsz 12 (by omega), fun j => if j = 26 then .pointer (some ⟨W.heap.size, 0, none⟩) else s j, F8, by first | (simp [frN]; done) | (simp [frN]; rfl), by simpa using hsz, ⟨I.v0, I.v1, I.v2, I.v3, I.v4, I.v5, I.v6, I.v7, I.v8, I.v9, I.v10, I.v11, I.v14, I.mm.ext ((Ext.refl _).alloc _), I.mv.ext ((Ext.refl _).alloc _), fun _ => rfl, fun _ _ => ⟨_, rfl, hfz, Blk.new _ _ _, fun hf => by have := I.mm.lt _ hf; omega⟩⟩⟩
      · -- operation 13
        simp only [Region.binds, listed_bit hL] at hdep
        have d10 : L 10 = true := by first | simpa [hL] using hdep | (simp [hL, Region.binds] at hdep; simp [hdep])
        have e10 := I.v10 d10
        have d12 : L 12 = true := by first | simpa [hL] using hdep | (simp [hL, Region.binds] at hdep; simp [hdep])
        obtain ⟨g, e12, hg, hB, hnF⟩ := I.za d12 hn0
        obtain ⟨q1, q2, q3⟩ := hB.rules
        refine wpOp_step rfl (fun K' hK => ?_)
        rw [e10, e12]
        have IX := Lib.hid I
        have HNF := Lib.hid hnF
        clear I hB hnF
        go_simp
        exact hK _ _ ⟨_, bit_set hL hsz 13 (by omega), s, F8, by first | (simp [frN, e10, e12]; done) | (simp [frN, e10, e12]; rfl), by simpa using hsz, ⟨IX.out.v0, IX.out.v1, IX.out.v2, IX.out.v3, IX.out.v4, IX.out.v5, IX.out.v6, IX.out.v7, IX.out.v8, IX.out.v9, IX.out.v10, IX.out.v11, IX.out.v14, IX.out.mm.far (((Keep.refl (· = g) W).setCell (p := ⟨g, 0, none⟩) rfl _).setCell (p := ⟨g, 1, none⟩) rfl _) (fun j e hf => HNF.out (e ▸ hf)), ⟨(IX.out.mv.keep.setNew (p := ⟨g, 0, none⟩) hg _).setNew (p := ⟨g, 1, none⟩) hg _, IX.out.mv.new⟩, fun _ => d12, fun _ h => absurd h (by simp)⟩⟩
      · -- operation 14
        simp only [Region.binds, listed_bit hL] at hdep
        have d11 : L 11 = true := by first | simpa [hL] using hdep | (simp [hL, Region.binds] at hdep; simp [hdep])
        have e11 := I.v11 d11
        refine wpOp_step rfl (fun K' hK => ?_)
        rw [e11]
        go_simp
        exact hK _ _ ⟨_, bit_set hL hsz 14 (by omega), fun j => if j = 27 then .bool false else s j, F8, by first | (simp [frN, e11]; done) | (simp [frN, e11]; rfl), by simpa using hsz, ⟨I.v0, I.v1, I.v2, I.v3, I.v4, I.v5, I.v6, I.v7, I.v8, I.v9, I.v10, I.v11, fun _ => rfl, I.mm, I.mv, I.k13, I.za⟩⟩
    · rintro listed act W0 ⟨L, hL, s, F8, rfl, hsz, I⟩ hr
      have ALL : ∀ i, i < 15 → L i = true := fun i hi => by rw [← hL i]; exact all_listed_m (by kernel_rfl) hsz hr i hi
      have e27 := I.v14 (ALL 14 (by omega))
      have M8 := Lib.hid I.mm
      have V8 := Lib.hid I.mv
      clear I hL ALL hr hsz
      unfold frN
      dsimp only
      rw [e27]
      have C27n : Hid (∀ W [x : IsExt W0 W] gs, Blk W gs 40 #[.bool false, .int .i64 (-1)] → Calls Tryz.prog 27 #[.pointer (some ⟨m, 0, none⟩), .int .i64 27, .agg #[.bool true, .int .i64 c], .slice (some ⟨gs, 0, none⟩) 1 1] W fun e w' => e = .returned (.tuple #[.agg #[.bool false, .int .i64 0], .bool false]) ∧ Goes F8 m (T2 c k) W w') := Lib.hid (fun W x gs hb => by
        have q := pop27 (M8.out.ext x.out) (by rw [TT.out.p2]; decide) c (-1) TT.out.e2 TT.out.e3 gs 1 hb
        have e1 : (T2 c k).makeId c (-1) = 0 := by unfold MS.makeId; rw [TT.out.e1]; rfl
        have e2 : (T2 c k).make c (-1) = T2 c k := by unfold MS.make; rw [TT.out.e1]; rfl
        rw [TT.out.e1, e1, e2] at q
        exact q)
      have XW : Hid (Ext w W0) := Lib.hid (Ext.of_below (Keep.below XZ.out.below V8.out.keep XZ.out.below.size (fun i hi h => by have := FL7.out i h; omega)))
      have FL8 : Hid (∀ k, F8 k → w.heap.size ≤ k) := Lib.hid (fun k hk => by
        rcases V8.out.new k hk with h | h
        · exact FL7.out k h
        · have := XZ.out.below.size; omega)
      have j0 : IsExt W0 W0 := ⟨Ext.refl _⟩
      clear C16 IDX i16 MZ XZ BX11 BX13 N11 M8 V8
      go_wp2_with fail
      refine (HO.out _ _).mono ?_
      rintro e ws ⟨rfl, xs⟩
      have js : IsExt W0 ws := ⟨xs⟩
      clear xs j0
      go_wp2_with fail
      refine (HN.out _ _).mono ?_
      rintro e wt ⟨rfl, xt⟩
      have jt : IsExt W0 wt := ⟨js.out.trans xt⟩
      clear xt js
      go_wp2_with fail
      refine calls_name (fun wu hW => ?_)
      have ju : IsExt W0 wu := ⟨by rw [hW]; exact jt.out.alloc _⟩
      have bu : Blk wu wt.heap.size 40 #[.bool false, .int .i64 (-1)] := by rw [hW]; exact Blk.new _ _ _
      have CU := Lib.hid (C27n.out wu _ bu)
      clear hW bu C27n jt
      refine CU.out.mono ?_
      rintro e wv ⟨rfl, F9, m9, v9⟩
      have XV : Hid (Ext w wv) := Lib.hid (Ext.of_below (Keep.below (XW.out.trans ju.out).below v9.keep (XW.out.trans ju.out).below.size (fun i hi h => by have := FL8.out i h; omega)))
      clear m9 v9 CU ju XW FL8
      go_wp2_with fail
      refine (AW.out _).mono ?_
      rintro e wx ⟨rfl, xx⟩
      go_wp2_with fail
      go_ret
      exact ⟨rfl, ((XV.out.alloc _).trans xx).below⟩
  · go_upto_region 16 with (fail)
    all_goals try (rename_i h1 h2 h3 h4; exfalso; injection h1 with h1; unfold undef at h1; cases h1)
    clear e1 e2 e3 f1 f2 f3 j1 j2 j3 l1 l2 l3 n1 n2 n3 p1 p2 p3
    refine wp_any_act (fun A hA => ?_)
    have eA : A = frN m g11 c a2 (fun q => A.tmps.getD q undef) (fun q => A.tmps.getD q undef) := by rw [hA]; rfl
    clear hA
    generalize (fun q => A.tmps.getD q undef) = u at eA
    subst eA
    refine wp_region_inv (Inv := NInv wz m g11 c (T2 c k) F7 a2 no r u) (by kernel_rfl) ?_ ?_ ?_
    · refine ⟨fun _ => false, fun k => ?_, u, F7, rfl, by simp, ⟨?_, ?_, ?_, ?_, ?_, ?_, ?_, ?_, ?_, ?_, ?_, ?_, ?_, ?_, ?_, ?_, ?_⟩⟩
      · rw [Array.getD_eq_getD_getElem?, Array.getElem?_replicate]; split <;> rfl
      · intro h; exact absurd h (by decide)
      · intro h; exact absurd h (by decide)
      · intro h; exact absurd h (by decide)
      · intro h; exact absurd h (by decide)
      · intro h; exact absurd h (by decide)
      · intro h; exact absurd h (by decide)
      · intro h; exact absurd h (by decide)
      · intro h; exact absurd h (by decide)
      · intro h; exact absurd h (by decide)
      · intro h; exact absurd h (by decide)
      · intro h; exact absurd h (by decide)
      · intro h; exact absurd h (by decide)
      · intro h; exact absurd h (by decide)
      · exact (MZ.out.ext i16.out).ext ((Ext.refl _).drew)
      · exact Mov.of_ext (i16.out.trans ((Ext.refl _).drew))
      · intro h; exact absurd h (by decide)
      · intro h; exact absurd h (by decide)
    · rintro listed act W ii ⟨L, hL, s, F8, rfl, hsz, I⟩ hi
      obtain ⟨hlt, hnot, hdep⟩ := (ready_iff _ _).1 hi
      have hiN : ii < 15 := hlt
      have casesN : ii = 0 ∨ ii = 1 ∨ ii = 2 ∨ ii = 3 ∨ ii = 4 ∨ ii = 5 ∨ ii = 6 ∨ ii = 7 ∨ ii = 8 ∨ ii = 9 ∨ ii = 10 ∨ ii = 11 ∨ ii = 12 ∨ ii = 13 ∨ ii = 14 := by omega
      have hn0 : L ii = false := by rw [← hL ii]; exact not_bit hnot
      clear hi hlt hiN hnot
      obtain ⟨b11, n11⟩ := I.mv.blk BX11.out N11.out
      obtain ⟨p1, p2, p3⟩ := b11.rules
      have hfz := I.mv.keep.size
      unfold frN
      rcases casesN with rfl | rfl | rfl | rfl | rfl | rfl | rfl | rfl | rfl | rfl | rfl | rfl | rfl | rfl | rfl
      · -- operation 0
        simp only [Region.binds, listed_bit hL] at hdep
        refine wpOp_step rfl (fun K' hK => ?_)
        go_simp
        exact hK _ _ ⟨_, bit_set hL hsz 0 (by omega), fun j => if j = 168 then .pointer (some ⟨m, 0, none⟩) else s j, F8, by first | (simp [frN]; done) | (simp [frN]; rfl), by simpa using hsz, ⟨fun _ => rfl, I.v1, I.v2, I.v3, I.v4, I.v5, I.v6, I.v7, I.v8, I.v9, I.v10, I.v11, I.v14, I.mm, I.mv, I.k13, I.za⟩⟩
      · -- operation 1
        simp only [Region.binds, listed_bit hL] at hdep
        refine wpOp_step rfl (fun K' hK => ?_)
        go_simp
        exact hK _ _ ⟨_, bit_set hL hsz 1 (by omega), fun j => if j = 169 then .pointer (some ⟨g11, 1, none⟩) else s j, F8, by first | (simp [frN]; done) | (simp [frN]; rfl), by simpa using hsz, ⟨I.v0, fun _ => rfl, I.v2, I.v3, I.v4, I.v5, I.v6, I.v7, I.v8, I.v9, I.v10, I.v11, I.v14, I.mm, I.mv, I.k13, I.za⟩⟩
      · -- operation 2
        simp only [Region.binds, listed_bit hL] at hdep
        have d1 : L 1 = true := by first | simpa [hL] using hdep | (simp [hL, Region.binds] at hdep; simp [hdep])
        have e1 := I.v1 d1
        refine wpOp_step rfl (fun K' hK => ?_)
        rw [e1]
        go_simp
        exact hK _ _ ⟨_, bit_set hL hsz 2 (by omega), fun j => if j = 170 then .int .i64 23 else s j, F8, by first | (simp [frN, e1]; done) | (simp [frN, e1]; rfl), by simpa using hsz, ⟨I.v0, I.v1, fun _ => rfl, I.v3, I.v4, I.v5, I.v6, I.v7, I.v8, I.v9, I.v10, I.v11, I.v14, I.mm, I.mv, I.k13, I.za⟩⟩
      · -- operation 3
        simp only [Region.binds, listed_bit hL] at hdep
        have d2 : L 2 = true := by first | simpa [hL] using hdep | (simp [hL, Region.binds] at hdep; simp [hdep])
        have e2 := I.v2 d2
        refine wpOp_step rfl (fun K' hK => ?_)
        rw [e2]
        go_simp
        exact hK _ _ ⟨_, bit_set hL hsz 3 (by omega), fun j => if j = 171 then .agg #[.int .i64 0, .int .i64 19, .int .i64 22, .int .i64 23] else s j, F8, by first | (simp [frN, e2]; done) | (simp [frN, e2]; rfl), by simpa using hsz, ⟨I.v0, I.v1, I.v2, fun _ => rfl, I.v4, I.v5, I.v6, I.v7, I.v8, I.v9, I.v10, I.v11, I.v14, I.mm, I.mv, I.k13, I.za⟩⟩
      · -- operation 4
        simp only [Region.binds, listed_bit hL] at hdep
        refine wpOp_step rfl (fun K' hK => ?_)
        go_simp
        exact hK _ _ ⟨_, bit_set hL hsz 4 (by omega), fun j => if j = 172 then .int .i64 a2 else s j, F8, by first | (simp [frN]; done) | (simp [frN]; rfl), by simpa using hsz, ⟨I.v0, I.v1, I.v2, I.v3, fun _ => rfl, I.v5, I.v6, I.v7, I.v8, I.v9, I.v10, I.v11, I.v14, I.mm, I.mv, I.k13, I.za⟩⟩
      · -- operation 5
        simp only [Region.binds, listed_bit hL] at hdep
        have d4 : L 4 = true := by first | simpa [hL] using hdep | (simp [hL, Region.binds] at hdep; simp [hdep])
        have e4 := I.v4 d4
        refine wpOp_step rfl (fun K' hK => ?_)
        rw [e4]
        go_simp
        refine (Word.place _ _ _ (by omega) (by omega) (by omega) (by omega)).mono ?_
        rintro e w3 ⟨rfl, rfl⟩
        rw [HR.out]
        exact hK _ _ ⟨_, bit_set hL hsz 5 (by omega), fun j => if j = 173 then .int .i64 r else s j, F8, by first | (simp [frN, e4]; done) | (simp [frN, e4]; rfl), by simpa using hsz, ⟨I.v0, I.v1, I.v2, I.v3, I.v4, fun _ => rfl, I.v6, I.v7, I.v8, I.v9, I.v10, I.v11, I.v14, I.mm, I.mv, I.k13, I.za⟩⟩
      · -- operation 6
        simp only [Region.binds, listed_bit hL] at hdep
        have d3 : L 3 = true := by first | simpa [hL] using hdep | (simp [hL, Region.binds] at hdep; simp [hdep])
        have e3 := I.v3 d3
        have d5 : L 5 = true := by first | simpa [hL] using hdep | (simp [hL, Region.binds] at hdep; simp [hdep])
        have e5 := I.v5 d5
        refine wpOp_step rfl (fun K' hK => ?_)
        rw [e3, e5]
        go_simp
        exact hK _ _ ⟨_, bit_set hL hsz 6 (by omega), fun j => if j = 174 then .int .i64 no else s j, F8, by first | (simp [frN, e3, e5]; done) | (simp [frN, e3, e5]; rfl), by simpa using hsz, ⟨I.v0, I.v1, I.v2, I.v3, I.v4, I.v5, fun _ => rfl, I.v7, I.v8, I.v9, I.v10, I.v11, I.v14, I.mm, I.mv, I.k13, I.za⟩⟩
      · -- operation 7
        simp only [Region.binds, listed_bit hL] at hdep
        have d6 : L 6 = true := by first | simpa [hL] using hdep | (simp [hL, Region.binds] at hdep; simp [hdep])
        have e6 := I.v6 d6
        refine wpOp_step rfl (fun K' hK => ?_)
        rw [e6]
        go_simp
        refine (HO.out _ _).mono ?_
        rintro e w3 ⟨rfl, x3⟩
        exact hK _ _ ⟨_, bit_set hL hsz 7 (by omega), fun j => if j = 175 then .agg #[.bool true, .int .i64 no] else s j, F8, by first | (simp [frN, e6]; done) | (simp [frN, e6]; rfl), by simpa using hsz, ⟨I.v0, I.v1, I.v2, I.v3, I.v4, I.v5, I.v6, fun _ => rfl, I.v8, I.v9, I.v10, I.v11, I.v14, I.mm.ext x3, I.mv.ext x3, I.k13, fun h1 h2 => by obtain ⟨g, y1, y2, y3, y4⟩ := I.za h1 h2; exact ⟨g, y1, y2, y3.ext x3, y4⟩⟩⟩
      · -- operation 8
        simp only [Region.binds, listed_bit hL] at hdep
        have d0 : L 0 = true := by first | simpa [hL] using hdep | (simp [hL, Region.binds] at hdep; simp [hdep])
        have e0 := I.v0 d0
        have d7 : L 7 = true := by first | simpa [hL] using hdep | (simp [hL, Region.binds] at hdep; simp [hdep])
        have e7 := I.v7 d7
        refine wpOp_step rfl (fun K' hK => ?_)
        rw [e0, e7]
        go_simp
        refine (C16.out _ _ I.mm).mono ?_
        rintro e w3 ⟨rfl, F9, m9, v9⟩
        exact hK _ _ ⟨_, bit_set hL hsz 8 (by omega), fun j => if j = 176 then .tuple #[.agg #[.bool false, .int .i64 0], .bool false] else s j, F9, by first | (simp [frN, e0, e7]; done) | (simp [frN, e0, e7]; rfl), by simpa using hsz, ⟨I.v0, I.v1, I.v2, I.v3, I.v4, I.v5, I.v6, I.v7, fun _ => rfl, I.v9, I.v10, I.v11, I.v14, m9, I.mv.trans v9, I.k13, fun h1 h2 => by obtain ⟨g, y1, y2, y3, y4⟩ := I.za h1 h2; obtain ⟨z1, z2⟩ := v9.blk y3 y4; exact ⟨g, y1, y2, z1, z2⟩⟩⟩
      · -- operation 9
        simp only [Region.binds, listed_bit hL] at hdep
        have d8 : L 8 = true := by first | simpa [hL] using hdep | (simp [hL, Region.binds] at hdep; simp [hdep])
        have e8 := I.v8 d8
        refine wpOp_step rfl (fun K' hK => ?_)
        rw [e8]
        go_simp
        exact hK _ _ ⟨_, bit_set hL hsz 9 (by omega), fun j => if j = 167 then .tuple #[.agg #[.bool false, .int .i64 0], .bool false] else s j, F8, by first | (simp [frN, e8]; done) | (simp [frN, e8]; rfl), by simpa using hsz, ⟨I.v0, I.v1, I.v2, I.v3, I.v4, I.v5, I.v6, I.v7, I.v8, fun _ => rfl, I.v10, I.v11, I.v14, I.mm, I.mv, I.k13, I.za⟩⟩
      · -- operation 10
        simp only [Region.binds, listed_bit hL] at hdep
        have d9 : L 9 = true := by first | simpa [hL] using hdep | (simp [hL, Region.binds] at hdep; simp [hdep])
        have e9 := I.v9 d9
        refine wpOp_step rfl (fun K' hK => ?_)
        rw [e9]
        go_simp
        exact hK _ _ ⟨_, bit_set hL hsz 10 (by omega), fun j => if j = 177 then .agg #[.bool false, .int .i64 0] else s j, F8, by first | (simp [frN, e9]; done) | (simp [frN, e9]; rfl), by simpa using hsz, ⟨I.v0, I.v1, I.v2, I.v3, I.v4, I.v5, I.v6, I.v7, I.v8, I.v9, fun _ => rfl, I.v11, I.v14, I.mm, I.mv, I.k13, I.za⟩⟩
      · -- operation 11
        simp only [Region.binds, listed_bit hL] at hdep
        have d9 : L 9 = true := by first | simpa [hL] using hdep | (simp [hL, Region.binds] at hdep; simp [hdep])
        have e9 := I.v9 d9
        refine wpOp_step rfl (fun K' hK => ?_)
        rw [e9]
        go_simp
        exact hK _ _ ⟨_, bit_set hL hsz 11 (by omega), fun j => if j = 178 then .bool false else s j, F8, by first | (simp [frN, e9]; done) | (simp [frN, e9]; rfl), by simpa using hsz, ⟨I.v0, I.v1, I.v2, I.v3, I.v4, I.v5, I.v6, I.v7, I.v8, I.v9, I.v10, fun _ => rfl, I.v14, I.mm, I.mv, I.k13, I.za⟩⟩
      · -- operation 12
        simp only [Region.binds, listed_bit hL] at hdep
        have n13 : L 13 = false := by cases hh : L 13 with | false => rfl | true => rw [I.k13 hh] at hn0; cases hn0
        refine wpOp_step rfl (fun K' hK => ?_)
        go_simp
        exact hK _ _ ⟨_, bit_set hL hsz 12 (by omega), fun j => if j = 26 then .pointer (some ⟨W.heap.size, 0, none⟩) else s j, F8, by first | (simp [frN]; done) | (simp [frN]; rfl), by simpa using hsz, ⟨I.v0, I.v1, I.v2, I.v3, I.v4, I.v5, I.v6, I.v7, I.v8, I.v9, I.v10, I.v11, I.v14, I.mm.ext ((Ext.refl _).alloc _), I.mv.ext ((Ext.refl _).alloc _), fun _ => rfl, fun _ _ => ⟨_, rfl, hfz, Blk.new _ _ _, fun hf => by have := I.mm.lt _ hf; omega⟩⟩⟩
      · -- operation 13
        simp only [Region.binds, listed_bit hL] at hdep
        have d10 : L 10 = true := by first | simpa [hL] using hdep | (simp [hL, Region.binds] at hdep; simp [hdep])
        have e10 := I.v10 d10
        have d12 : L 12 = true := by first | simpa [hL] using hdep | (simp [hL, Region.binds] at hdep; simp [hdep])
        obtain ⟨g, e12, hg, hB, hnF⟩ := I.za d12 hn0
        obtain ⟨q1, q2, q3⟩ := hB.rules
        refine wpOp_step rfl (fun K' hK => ?_)
        rw [e10, e12]
        have IX := Lib.hid I
        have HNF := Lib.hid hnF
        clear I hB hnF
        go_simp
        exact hK _ _ ⟨_, bit_set hL hsz 13 (by omega), s, F8, by first | (simp [frN, e10, e12]; done) | (simp [frN, e10, e12]; rfl), by simpa using hsz, ⟨IX.out.v0, IX.out.v1, IX.out.v2, IX.out.v3, IX.out.v4, IX.out.v5, IX.out.v6, IX.out.v7, IX.out.v8, IX.out.v9, IX.out.v10, IX.out.v11, IX.out.v14, IX.out.mm.far (((Keep.refl (· = g) W).setCell (p := ⟨g, 0, none⟩) rfl _).setCell (p := ⟨g, 1, none⟩) rfl _) (fun j e hf => HNF.out (e ▸ hf)), ⟨(IX.out.mv.keep.setNew (p := ⟨g, 0, none⟩) hg _).setNew (p := ⟨g, 1, none⟩) hg _, IX.out.mv.new⟩, fun _ => d12, fun _ h => absurd h (by simp)⟩⟩
      · -- operation 14
        simp only [Region.binds, listed_bit hL] at hdep
        have d11 : L 11 = true := by first | simpa [hL] using hdep | (simp [hL, Region.binds] at hdep; simp [hdep])
        have e11 := I.v11 d11
        refine wpOp_step rfl (fun K' hK => ?_)
        rw [e11]
        go_simp
        exact hK _ _ ⟨_, bit_set hL hsz 14 (by omega), fun j => if j = 27 then .bool false else s j, F8, by first | (simp [frN, e11]; done) | (simp [frN, e11]; rfl), by simpa using hsz, ⟨I.v0, I.v1, I.v2, I.v3, I.v4, I.v5, I.v6, I.v7, I.v8, I.v9, I.v10, I.v11, fun _ => rfl, I.mm, I.mv, I.k13, I.za⟩⟩
    · rintro listed act W0 ⟨L, hL, s, F8, rfl, hsz, I⟩ hr
      have ALL : ∀ i, i < 15 → L i = true := fun i hi => by rw [← hL i]; exact all_listed_m (by kernel_rfl) hsz hr i hi
      have e27 := I.v14 (ALL 14 (by omega))
      have M8 := Lib.hid I.mm
      have V8 := Lib.hid I.mv
      clear I hL ALL hr hsz
      unfold frN
      dsimp only
      rw [e27]
      have C27n : Hid (∀ W [x : IsExt W0 W] gs, Blk W gs 40 #[.bool false, .int .i64 (-1)] → Calls Tryz.prog 27 #[.pointer (some ⟨m, 0, none⟩), .int .i64 27, .agg #[.bool true, .int .i64 c], .slice (some ⟨gs, 0, none⟩) 1 1] W fun e w' => e = .returned (.tuple #[.agg #[.bool false, .int .i64 0], .bool false]) ∧ Goes F8 m (T2 c k) W w') := Lib.hid (fun W x gs hb => by
        have q := pop27 (M8.out.ext x.out) (by rw [TT.out.p2]; decide) c (-1) TT.out.e2 TT.out.e3 gs 1 hb
        have e1 : (T2 c k).makeId c (-1) = 0 := by unfold MS.makeId; rw [TT.out.e1]; rfl
        have e2 : (T2 c k).make c (-1) = T2 c k := by unfold MS.make; rw [TT.out.e1]; rfl
        rw [TT.out.e1, e1, e2] at q
        exact q)
      have XW : Hid (Ext w W0) := Lib.hid (Ext.of_below (Keep.below XZ.out.below V8.out.keep XZ.out.below.size (fun i hi h => by have := FL7.out i h; omega)))
      have FL8 : Hid (∀ k, F8 k → w.heap.size ≤ k) := Lib.hid (fun k hk => by
        rcases V8.out.new k hk with h | h
        · exact FL7.out k h
        · have := XZ.out.below.size; omega)
      have j0 : IsExt W0 W0 := ⟨Ext.refl _⟩
      clear C16 IDX i16 MZ XZ BX11 BX13 N11 M8 V8
      go_wp2_with fail
      refine (HO.out _ _).mono ?_
      rintro e ws ⟨rfl, xs⟩
      have js : IsExt W0 ws := ⟨xs⟩
      clear xs j0
      go_wp2_with fail
      refine (HN.out _ _).mono ?_
      rintro e wt ⟨rfl, xt⟩
      have jt : IsExt W0 wt := ⟨js.out.trans xt⟩
      clear xt js
      go_wp2_with fail
      refine calls_name (fun wu hW => ?_)
      have ju : IsExt W0 wu := ⟨by rw [hW]; exact jt.out.alloc _⟩
      have bu : Blk wu wt.heap.size 40 #[.bool false, .int .i64 (-1)] := by rw [hW]; exact Blk.new _ _ _
      have CU := Lib.hid (C27n.out wu _ bu)
      clear hW bu C27n jt
      refine CU.out.mono ?_
      rintro e wv ⟨rfl, F9, m9, v9⟩
      have XV : Hid (Ext w wv) := Lib.hid (Ext.of_below (Keep.below (XW.out.trans ju.out).below v9.keep (XW.out.trans ju.out).below.size (fun i hi h => by have := FL8.out i h; omega)))
      clear m9 v9 CU ju XW FL8
      go_wp2_with fail
      refine (AW.out _).mono ?_
      rintro e wx ⟨rfl, xx⟩
      go_wp2_with fail
      go_ret
      exact ⟨rfl, ((XV.out.alloc _).trans xx).below⟩
end Go.Proofs.YtnhijjcplnomgaaGreat.World
