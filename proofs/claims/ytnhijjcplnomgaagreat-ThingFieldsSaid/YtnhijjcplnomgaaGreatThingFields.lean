/-
  The walk of the law ThingFields.
-/
import Derived.Test.YtnhijjcplnomgaaGreatThingFields0
import Derived.Test.YtnhijjcplnomgaaGreatWord
import Derived.OpenShut
namespace Go.Proofs.YtnhijjcplnomgaaGreat.World
open Go.RowKit Go.Proofs.YtnhijjcplnomgaaGreat.Plain
set_option linter.unusedVariables false
attribute [local go_sem ↓] Go.wp_at_zero Go.wp_at_succ
/-! ### three regions whose boxes may come anywhere -/
structure R14I (wz : World) (m g13 g18 : Nat) (n vn : Int) (ro rk : Bool) (rn : Int) (S P : MS) (F7 F8 : Nat → Prop) (L : Nat → Bool) (s : Nat → Value) (W : World) : Prop where
  v0 : L 0 = true → s 67 = .pointer (some ⟨m, 0, none⟩)
  v1 : L 1 = true → s 68 = .agg #[.bool true, .int .i64 23]
  v2 : L 2 = true → s 69 = .int .i64 n
  v3 : L 3 = true → s 70 = .agg #[.bool false, .int .i64 n]
  v4 : L 4 = true → s 71 = .agg #[.bool false, .int .i64 vn]
  v6 : L 6 = true → s 73 = .tuple #[.agg #[.bool ro, .int .i64 rn], .bool rk]
  v7 : L 7 = true → s 66 = .tuple #[.agg #[.bool ro, .int .i64 rn], .bool rk]
  v8 : L 8 = true → s 74 = .agg #[.bool ro, .int .i64 rn]
  v9 : L 9 = true → s 75 = .bool rk
  v12 : L 12 = true → s 20 = .bool rk
  ma : L 6 = false → M W F8 m S
  mb : L 6 = true → M W F8 m P
  mv : Mov F7 F8 wz W
  c7 : L 7 = true → L 6 = true
  c8 : L 8 = true → L 7 = true
  sl : L 5 = true → L 6 = false → ∃ gs, s 72 = .slice (some ⟨gs, 0, none⟩) 2 2 ∧ Blk W gs 40 #[.bool false, .int .i64 n, .bool false, .int .i64 vn] ∧ ¬ F8 gs
  k11 : L 11 = true → L 10 = true
  za : L 10 = true → L 11 = false → ∃ g, s 19 = .pointer (some ⟨g, 0, none⟩) ∧ wz.heap.size ≤ g ∧ Blk W g 40 #[.bool false, .int .i64 0] ∧ ¬ F8 g
  zb : L 11 = true → ∃ g, s 19 = .pointer (some ⟨g, 0, none⟩) ∧ wz.heap.size ≤ g ∧ Blk W g 40 #[.bool ro, .int .i64 rn] ∧ ¬ F8 g
def frR14 (m g13 g18 : Nat) (n : Int) (u s : Nat → Value) : Act := { tmps := #[u 0, u 1, u 2, u 3, u 4, u 5, u 6, u 7, u 8, u 9, .pointer (some ⟨m, 0, none⟩), u 11, u 12, .pointer (some ⟨g13, 0, none⟩), u 14, u 15, u 16, .int .i64 n, .pointer (some ⟨g18, 0, none⟩), s 19, s 20, u 21, u 22, u 23, u 24, u 25, u 26, u 27, u 28, u 29, u 30, u 31, u 32, u 33, u 34, u 35, u 36, u 37, u 38, u 39, u 40, u 41, u 42, u 43, u 44, u 45, u 46, u 47, u 48, u 49, u 50, u 51, u 52, u 53, u 54, u 55, u 56, u 57, u 58, u 59, u 60, u 61, u 62, u 63, u 64, u 65, s 66, s 67, s 68, s 69, s 70, s 71, s 72, s 73, s 74, s 75, u 76, u 77, u 78, u 79, u 80, u 81, u 82, u 83, u 84, u 85, u 86, u 87, u 88, u 89, u 90, u 91, u 92, u 93, u 94, u 95, u 96, u 97, u 98, u 99, u 100, u 101, u 102, u 103, u 104, u 105, u 106, u 107, u 108, u 109, u 110, u 111, u 112, u 113, u 114, u 115, u 116, u 117, u 118, u 119, u 120, u 121, u 122, u 123, u 124, u 125, u 126, u 127, u 128, u 129, u 130, u 131, u 132, u 133, u 134, u 135, u 136, u 137, u 138, u 139, u 140, u 141, u 142, u 143, u 144, u 145, u 146, u 147, u 148, u 149, u 150, u 151, u 152], defers := [] }
def R14Inv (wz : World) (m g13 g18 : Nat) (n vn : Int) (ro rk : Bool) (rn : Int) (S P : MS) (F7 : Nat → Prop) (u : Nat → Value) (listed : Array Bool) (act : Act) (W : World) : Prop :=
  ∃ L : Nat → Bool, (∀ k, listed.getD k false = L k) ∧ ∃ (s : Nat → Value) (F8 : Nat → Prop), act = frR14 m g13 g18 n u s ∧ listed.size = 13 ∧ R14I wz m g13 g18 n vn ro rk rn S P F7 F8 L s W
structure R15I (wz : World) (m g13 : Nat) (n : Int) (ro rk : Bool) (rn : Int) (L : Nat → Bool) (s : Nat → Value) (W : World) : Prop where
  v0 : L 0 = true → s 77 = .pointer (some ⟨m, 0, none⟩)
  v1 : L 1 = true → s 78 = .agg #[.bool true, .int .i64 23]
  v2 : L 2 = true → s 79 = .int .i64 n
  v3 : L 3 = true → s 80 = .agg #[.bool false, .int .i64 n]
  v5 : L 5 = true → s 82 = .tuple #[.agg #[.bool ro, .int .i64 rn], .bool rk]
  v6 : L 6 = true → s 76 = .tuple #[.agg #[.bool ro, .int .i64 rn], .bool rk]
  v7 : L 7 = true → s 83 = .agg #[.bool ro, .int .i64 rn]
  v8 : L 8 = true → s 84 = .bool rk
  v11 : L 11 = true → s 22 = .bool rk
  x : Ext wz W
  c6 : L 6 = true → L 5 = true
  c7 : L 7 = true → L 6 = true
  sl : L 4 = true → L 5 = false → ∃ gs, s 81 = .slice (some ⟨gs, 0, none⟩) 1 1 ∧ Blk W gs 40 #[.bool false, .int .i64 n]
  k10 : L 10 = true → L 9 = true
  za : L 9 = true → L 10 = false → ∃ g, s 21 = .pointer (some ⟨g, 0, none⟩) ∧ wz.heap.size ≤ g ∧ Blk W g 40 #[.bool false, .int .i64 0]
  zb : L 10 = true → ∃ g, s 21 = .pointer (some ⟨g, 0, none⟩) ∧ wz.heap.size ≤ g ∧ Blk W g 40 #[.bool ro, .int .i64 rn]
def frR15 (m g13 : Nat) (n : Int) (u s : Nat → Value) : Act := { tmps := #[u 0, u 1, u 2, u 3, u 4, u 5, u 6, u 7, u 8, u 9, .pointer (some ⟨m, 0, none⟩), u 11, u 12, .pointer (some ⟨g13, 0, none⟩), u 14, u 15, u 16, .int .i64 n, u 18, u 19, u 20, s 21, s 22, u 23, u 24, u 25, u 26, u 27, u 28, u 29, u 30, u 31, u 32, u 33, u 34, u 35, u 36, u 37, u 38, u 39, u 40, u 41, u 42, u 43, u 44, u 45, u 46, u 47, u 48, u 49, u 50, u 51, u 52, u 53, u 54, u 55, u 56, u 57, u 58, u 59, u 60, u 61, u 62, u 63, u 64, u 65, u 66, u 67, u 68, u 69, u 70, u 71, u 72, u 73, u 74, u 75, s 76, s 77, s 78, s 79, s 80, s 81, s 82, s 83, s 84, u 85, u 86, u 87, u 88, u 89, u 90, u 91, u 92, u 93, u 94, u 95, u 96, u 97, u 98, u 99, u 100, u 101, u 102, u 103, u 104, u 105, u 106, u 107, u 108, u 109, u 110, u 111, u 112, u 113, u 114, u 115, u 116, u 117, u 118, u 119, u 120, u 121, u 122, u 123, u 124, u 125, u 126, u 127, u 128, u 129, u 130, u 131, u 132, u 133, u 134, u 135, u 136, u 137, u 138, u 139, u 140, u 141, u 142, u 143, u 144, u 145, u 146, u 147, u 148, u 149, u 150, u 151, u 152], defers := [] }
def R15Inv (wz : World) (m g13 : Nat) (n : Int) (ro rk : Bool) (rn : Int) (u : Nat → Value) (listed : Array Bool) (act : Act) (W : World) : Prop :=
  ∃ L : Nat → Bool, (∀ k, listed.getD k false = L k) ∧ ∃ s : Nat → Value, act = frR15 m g13 n u s ∧ listed.size = 12 ∧ R15I wz m g13 n ro rk rn L s W
structure R22I (wz : World) (m g13 : Nat) (n : Int) (ro rk : Bool) (rn : Int) (L : Nat → Bool) (s : Nat → Value) (W : World) : Prop where
  v0 : L 0 = true → s 127 = .pointer (some ⟨m, 0, none⟩)
  v1 : L 1 = true → s 128 = .agg #[.bool true, .int .i64 23]
  v2 : L 2 = true → s 129 = .int .i64 n
  v3 : L 3 = true → s 130 = .agg #[.bool false, .int .i64 n]
  v5 : L 5 = true → s 132 = .tuple #[.agg #[.bool ro, .int .i64 rn], .bool rk]
  v6 : L 6 = true → s 126 = .tuple #[.agg #[.bool ro, .int .i64 rn], .bool rk]
  v7 : L 7 = true → s 133 = .agg #[.bool ro, .int .i64 rn]
  v8 : L 8 = true → s 134 = .bool rk
  v11 : L 11 = true → s 26 = .bool rk
  x : Ext wz W
  c6 : L 6 = true → L 5 = true
  c7 : L 7 = true → L 6 = true
  sl : L 4 = true → L 5 = false → ∃ gs, s 131 = .slice (some ⟨gs, 0, none⟩) 1 1 ∧ Blk W gs 40 #[.bool false, .int .i64 n]
  k10 : L 10 = true → L 9 = true
  za : L 9 = true → L 10 = false → ∃ g, s 25 = .pointer (some ⟨g, 0, none⟩) ∧ wz.heap.size ≤ g ∧ Blk W g 40 #[.bool false, .int .i64 0]
  zb : L 10 = true → ∃ g, s 25 = .pointer (some ⟨g, 0, none⟩) ∧ wz.heap.size ≤ g ∧ Blk W g 40 #[.bool ro, .int .i64 rn]
def frR22 (m g13 : Nat) (n : Int) (u s : Nat → Value) : Act := { tmps := #[u 0, u 1, u 2, u 3, u 4, u 5, u 6, u 7, u 8, u 9, .pointer (some ⟨m, 0, none⟩), u 11, u 12, .pointer (some ⟨g13, 0, none⟩), u 14, u 15, u 16, u 17, u 18, u 19, u 20, u 21, u 22, u 23, .int .i64 n, s 25, s 26, u 27, u 28, u 29, u 30, u 31, u 32, u 33, u 34, u 35, u 36, u 37, u 38, u 39, u 40, u 41, u 42, u 43, u 44, u 45, u 46, u 47, u 48, u 49, u 50, u 51, u 52, u 53, u 54, u 55, u 56, u 57, u 58, u 59, u 60, u 61, u 62, u 63, u 64, u 65, u 66, u 67, u 68, u 69, u 70, u 71, u 72, u 73, u 74, u 75, u 76, u 77, u 78, u 79, u 80, u 81, u 82, u 83, u 84, u 85, u 86, u 87, u 88, u 89, u 90, u 91, u 92, u 93, u 94, u 95, u 96, u 97, u 98, u 99, u 100, u 101, u 102, u 103, u 104, u 105, u 106, u 107, u 108, u 109, u 110, u 111, u 112, u 113, u 114, u 115, u 116, u 117, u 118, u 119, u 120, u 121, u 122, u 123, u 124, u 125, s 126, s 127, s 128, s 129, s 130, s 131, s 132, s 133, s 134, u 135, u 136, u 137, u 138, u 139, u 140, u 141, u 142, u 143, u 144, u 145, u 146, u 147, u 148, u 149, u 150, u 151, u 152], defers := [] }
def R22Inv (wz : World) (m g13 : Nat) (n : Int) (ro rk : Bool) (rn : Int) (u : Nat → Value) (listed : Array Bool) (act : Act) (W : World) : Prop :=
  ∃ L : Nat → Bool, (∀ k, listed.getD k false = L k) ∧ ∃ s : Nat → Value, act = frR22 m g13 n u s ∧ listed.size = 12 ∧ R22I wz m g13 n ro rk rn L s W
set_option maxRecDepth 100000 in
set_option maxHeartbeats 4000000 in
theorem thingFields (a0 a1 a2 : Int) (a3 : Bool) (w0 : (Lit.int .i64 a0).wf = true) (w1 : (Lit.int .i64 a1).wf = true) (w2 : (Lit.int .i64 a2).wf = true) (w : World) :
    Calls Tryz.prog 7 #[.int .i64 a0, .int .i64 a1, .int .i64 a2, .bool a3] w fun e w' => e = .returned (.bool true) ∧ Below w.heap.size w w' := by
  obtain ⟨x1, x2⟩ := bounds_i64 w0
  obtain ⟨x3, x4⟩ := bounds_i64 w1
  obtain ⟨x5, x6⟩ := bounds_i64 w2
  clear w0 w1 w2
  obtain ⟨k, hk⟩ : ∃ k : Nat, a0 % 40 = (k : Int) := ⟨(a0 % 40).toNat, by omega⟩
  obtain ⟨n, hn⟩ : ∃ n, a1 % 50 - 3 = n := ⟨_, rfl⟩
  obtain ⟨vn, hv⟩ : ∃ v, a2 % 256 = v := ⟨_, rfl⟩
  have k40 : k < 40 := by omega
  have nb : -3 ≤ n ∧ n ≤ 46 := by omega
  have vb : 0 ≤ vn ∧ vn ≤ 255 := by omega
  have HK := Lib.hid hk
  have HNN := Lib.hid hn
  have HVV := Lib.hid hv
  have HF := Lib.hid (@first_ w)
  have HN := Lib.hid lnum
  have HO := Lib.hid lobj
  unfold val num at HN
  unfold val objV at HO
  have AW := Lib.hid awake18
  obtain ⟨tx, htx⟩ : ∃ t, a3 = t := ⟨_, rfl⟩
  have TT := Lib.hid (tsf tx k k40)
  have hcl : clsT tx = if a3 = true then 8 else 7 := by rw [htx]; rfl
  clear hk hn hv htx
  cases a3
  all_goals
    first | rw [if_pos rfl] at hcl | rw [if_neg (by decide)] at hcl
    go_enter Tryz.func7, Tryz.ntmps7
    go_wp2_with (go_at_call 13; refine (Word.place _ _ _ (by omega) (by omega) (by omega) (by omega)).mono ?_; rintro e w' ⟨rfl, rfl⟩)
    rw [HK.out]
    refine HF.out.mono ?_
    clear HF
    rintro e wa ⟨x, rfl, b1, xa⟩
    have CN := Lib.hid (objnew (W := firstW) (b1.at_ (nums_of_check first_check)) first_check rfl 5)
    have XA := Lib.hid xa
    clear b1 xa
    generalize cellsW firstW x = cs at *
    go_wp2_with fail
    refine CN.out.mono ?_
    rintro e wb ⟨m, F, rfl, mb, hF, xb⟩
    have XB := Lib.hid (XA.out.trans xb)
    have FL : Hid (∀ k, F k → w.heap.size ≤ k) := Lib.hid (fun k hk => by have := hF k hk; have := XA.out.below.size; omega)
    have MB : Hid (M wb F m T0) := Lib.hid mb
    clear mb hF xb CN XA
    go_wp2_with fail
    refine (HO.out _ _).mono ?_
    rintro e wc ⟨rfl, xc⟩
    have ic : IsExt wb wc := ⟨xc⟩
    clear xc
    go_wp2_with fail
    refine (HN.out _ _).mono ?_
    rintro e wd ⟨rfl, xd⟩
    have id' : IsExt wb wd := ⟨ic.out.trans xd⟩
    clear xd ic
    go_wp2_with fail
    refine calls_name (fun we hW => ?_)
    have xe : Ext wd we := by rw [hW]; exact is_ext _ _
    have bs : Blk we wd.heap.size 40 #[.bool false, .int .i64 k] := by rw [hW]; exact Blk.new _ _ _
    have C27 := pop27 (MB.out.ext (id'.out.trans xe)) (by rw [TT.out.p0]; decide) (clsT tx) k TT.out.a3 TT.out.a4 wd.heap.size 1 bs
    rw [TT.out.a1, TT.out.a2, hcl] at C27
    replace C27 := Lib.hid C27
    have XE := Lib.hid (XB.out.trans (id'.out.trans xe))
    clear hW xe bs id' MB XB
    generalize wd.heap.size = gs0 at *
    refine C27.out.mono ?_
    rintro e wf ⟨rfl, F7, m7, v7⟩
    have m7 : M wf F7 m (TS tx k) := by unfold TS; rw [hcl]; exact m7
    have XF : Hid (Ext w wf) := Lib.hid (Ext.of_below (Keep.below XE.out.below v7.keep XE.out.below.size (fun i hi h => by have := FL.out i h; omega)))
    have FL7 : Hid (∀ k, F7 k → w.heap.size ≤ k) := Lib.hid (fun k hk => by
      rcases v7.new k hk with h | h
      · exact FL.out k h
      · have := XE.out.below.size; omega)
    have MF := Lib.hid m7
    have NF : Hid (¬ F7 wf.heap.size) := Lib.hid (fun hf => by have := m7.lt _ hf; omega)
    clear v7 m7 C27 FL XE
    go_upto_region 11 with (fail)
    refine wp_name (fun wg hW => ?_)
    have xg : Ext wf wg := by rw [hW]; exact is_ext _ _
    have MG := Lib.hid (MF.out.ext xg)
    have XG := Lib.hid (XF.out.trans xg)
    have B13 : Hid (Blk wg wf.heap.size 40 #[.bool true, .int .i64 23]) := Lib.hid (by rw [hW]; exact Blk.new _ _ _)
    clear hW xg MF XF
    generalize wf.heap.size = g13 at *
    obtain ⟨p1, p2, p3⟩ := B13.out.rules
    have m23 : ∀ (u : Bool) (z : Int), (TS tx k).may ⟨u, z⟩ = (TS tx k).may ⟨u, z⟩ := fun _ _ => rfl
    have CS := Lib.hid (fun W [x : IsExt wg W] => pop0r (MG.out.ext x.out) 23 (.inr (.inr (.inl rfl))) true 23 (.inl rfl) TT.out.has false true ((TS tx k).size 23) (fun W' x' => pa23 ((MG.out.ext x.out).ext x') 23))
    rw [TT.out.sz] at CS
    have ig : IsExt wg wg := ⟨Ext.refl _⟩
    clear m23
    go_wp2_with fail
    refine (CS.out _).mono ?_
    rintro e wh ⟨rfl, xh⟩
    have ih : IsExt wg wh := ⟨xh⟩
    clear xh CS ig p1 p2 p3
    go_wp2_with (go_at_call 13; refine (Word.place _ _ _ (by omega) (by omega) (by omega) (by omega)).mono ?_; rintro e w' ⟨rfl, rfl⟩)
    rw [HNN.out, HVV.out]
    refine calls_name (fun wi hW => ?_)
    have xi : Ext wh wi := by rw [hW]; exact is_ext _ _
    have B15 : Hid (Blk wi wh.heap.size 40 #[.bool false, .int .i64 k]) := Lib.hid (by rw [hW]; exact Blk.new _ _ _)
    have ii' : IsExt wg wi := ⟨ih.out.trans xi⟩
    have N15 : Hid (¬ F7 wh.heap.size) := Lib.hid (fun hf => by have := (MG.out.ext ih.out).lt _ hf; omega)
    clear hW xi ih
    generalize wh.heap.size = g15 at *
    refine (HN.out _ _).mono ?_
    rintro e wj ⟨rfl, xj⟩
    replace B15 := Lib.hid (B15.out.ext xj)
    have ij : IsExt wg wj := ⟨ii'.out.trans xj⟩
    clear xj ii'
    go_upto_region 14 with (fail)
    refine wp_name (fun wz hW => ?_)
    have xz : Ext wj wz := by rw [hW]; exact is_ext _ _
    have BZ18 : Hid (Blk wz wj.heap.size 40 #[.bool false, .int .i64 vn]) := Lib.hid (by rw [hW]; exact Blk.new _ _ _)
    have BZ15 := Lib.hid (B15.out.ext xz)
    have BZ := Lib.hid (B13.out.ext (ij.out.trans xz))
    have MZ := Lib.hid (MG.out.ext (ij.out.trans xz))
    have XZ := Lib.hid (XG.out.trans (ij.out.trans xz))
    have NZ18 : Hid (¬ F7 wj.heap.size) := Lib.hid (fun hf => by have := (MG.out.ext ij.out).lt _ hf; omega)
    have NZ := NF
    clear hW xz B15 B13 MG XG ij NF
    generalize wj.heap.size = g18 at *
    have mayN : ∀ z : Int, -1000 ≤ z ∧ z ≤ 1000 → ∀ T : MS, T.may ⟨false, z⟩ = true := fun z hz T => MS.fits_small (n := z) (by omega)
    obtain ⟨rk, ro, rn, P, rd, hrk, hin, RP, CO⟩ : ∃ (rk ro : Bool) (rn : Int) (P : MS) (rd : Nat → PV), rk = decide (1 ≤ n ∧ n ≤ k) ∧ (rk = true → ro = false ∧ rn = vn ∧ ∀ q : Nat, (q : Int) + 1 = n → rd q = num vn) ∧ (Reads P k rd ∧ ∀ q : Nat, q < k → ¬ (q : Int) + 1 = n → (rd q).n = 0) ∧ Hid (∀ W F', M W F' m (TS tx k) → ∀ gs, Blk W gs 40 #[.bool false, .int .i64 n, .bool false, .int .i64 vn] → ¬ F' gs → Calls Tryz.prog 27 #[.pointer (some ⟨m, 0, none⟩), .int .i64 25, .agg #[.bool true, .int .i64 23], .slice (some ⟨gs, 0, none⟩) 2 2] W fun e w' => e = .returned (.tuple #[.agg #[.bool ro, .int .i64 rn], .bool rk]) ∧ Goes F' m P W w') := by
      by_cases hin : 1 ≤ n ∧ n ≤ k
      · obtain ⟨q0, hq0⟩ : ∃ q0 : Nat, (q0 : Int) + 1 = n := ⟨(n - 1).toNat, by omega⟩
        obtain ⟨P, hP, hS⟩ := reads_set tx k q0 k40 (by omega) vn vb MZ.out
        refine ⟨true, false, vn, P, fun q => if q = q0 then num vn else zeroV tx, (decide_eq_true hin).symm, fun _ => ⟨rfl, rfl, fun q hq => if_pos (by omega)⟩, ⟨hP, fun q _ hq => by
          show (if q = q0 then num vn else zeroV tx).n = 0
          rw [if_neg (by omega)]; unfold zeroV; split <;> rfl⟩, Lib.hid (fun W F' hM gs hb hn => ?_)⟩
        exact pop25 hM 23 n TT.out.has (mayN n (by omega) _) false vn (mayN vn (by omega) _) gs 2 hb hn false true vn P (fun W' x' => by rw [← hq0]; exact hS W' F' m (hM.ext x'))
      · refine ⟨false, false, 0, TS tx k, fun _ => zeroV tx, (decide_eq_false hin).symm, fun h => (by cases h), ⟨reads0 tx k k40, fun q _ _ => by unfold zeroV; split <;> rfl⟩, Lib.hid (fun W F' hM gs hb hn => ?_)⟩
        exact pop25 hM 23 n TT.out.has (mayN n (by omega) _) false vn (mayN vn (by omega) _) gs 2 hb hn false false 0 (TS tx k) (fun W' x' => (pset_no (hM.ext x') 23 n false vn (by omega) (by rw [TT.out.sz]; exact hin)).mono (fun e w' ⟨a, b⟩ => ⟨a, Goes.same (hM.ext x') b⟩))
    obtain ⟨S, hS⟩ : ∃ S, S = TS tx k := ⟨_, rfl⟩
    rw [← hS] at CO MZ
    have HIN := Lib.hid hin
    have HRK := Lib.hid hrk
    have HRP := Lib.hid RP
    have MAY := Lib.hid mayN
    clear hin hrk RP mayN
    refine wp_any_act (fun A hA => ?_)
    have eA : A = frR14 m g13 g18 n (fun q => A.tmps.getD q undef) (fun q => A.tmps.getD q undef) := by rw [hA]; rfl
    obtain ⟨uu, huu⟩ : ∃ uu, (fun q => A.tmps.getD q undef) = uu := ⟨_, rfl⟩
    rw [huu] at eA
    rw [hA] at huu
    have HU := Lib.hid huu
    clear hA huu
    subst eA
    refine wp_region_inv (Inv := R14Inv wz m g13 g18 n vn ro rk rn S P F7 uu) (by kernel_rfl) ?_ ?_ ?_
    · refine ⟨fun _ => false, fun k => ?_, uu, F7, rfl, by simp, ⟨?_, ?_, ?_, ?_, ?_, ?_, ?_, ?_, ?_, ?_, ?_, ?_, ?_, ?_, ?_, ?_, ?_, ?_, ?_⟩⟩
      · rw [Array.getD_eq_getD_getElem?, Array.getElem?_replicate]; split <;> rfl
      · intro h; exact absurd h (by decide)
      · intro h; exact absurd h (by decide)
      · intro h; exact absurd h (by decide)
      · intro h; exact absurd h (by decide)
      · intro h; exact absurd h (by decide)
      · intro h; exact absurd h (by decide)
      · intro h; exact absurd h (by decide)
      · intro h; exact absurd h (by decide)
      · intro h; exact absurd h (by decide)
      · intro h; exact absurd h (by decide)
      · exact fun _ => MZ.out.ext ((Ext.refl _).drew)
      · intro h; exact absurd h (by decide)
      · exact Mov.of_ext ((Ext.refl _).drew)
      · intro h; exact absurd h (by decide)
      · intro h; exact absurd h (by decide)
      · intro h; exact absurd h (by decide)
      · intro h; exact absurd h (by decide)
      · intro h; exact absurd h (by decide)
      · intro h; exact absurd h (by decide)
    · rintro listed act W ii ⟨L, hL, s, F8, rfl, hsz, I⟩ hi
      obtain ⟨hlt, hnot, hdep⟩ := (ready_iff _ _).1 hi
      have hiN : ii < 13 := hlt
      have casesN : ii = 0 ∨ ii = 1 ∨ ii = 2 ∨ ii = 3 ∨ ii = 4 ∨ ii = 5 ∨ ii = 6 ∨ ii = 7 ∨ ii = 8 ∨ ii = 9 ∨ ii = 10 ∨ ii = 11 ∨ ii = 12 := by omega
      have hn0 : L ii = false := by rw [← hL ii]; exact not_bit hnot
      clear hi hlt hiN hnot
      obtain ⟨b13, n13⟩ := I.mv.blk BZ.out NZ.out
      obtain ⟨b18, n18⟩ := I.mv.blk BZ18.out NZ18.out
      obtain ⟨p1, p2, p3⟩ := b13.rules
      obtain ⟨r1, r2, r3⟩ := b18.rules
      have hfz := I.mv.keep.size
      have hlt8 : ∀ k, F8 k → k < W.heap.size := fun k hk => by cases hh : L 6 with | false => exact (I.ma hh).lt k hk | true => exact (I.mb hh).lt k hk
      unfold frR14
      rcases casesN with rfl | rfl | rfl | rfl | rfl | rfl | rfl | rfl | rfl | rfl | rfl | rfl | rfl
      · -- operation 0
        simp only [Region.binds, listed_bit hL] at hdep
        refine wpOp_step rfl (fun K' hK => ?_)
        go_simp
        exact hK _ _ ⟨_, bit_set hL hsz 0 (by omega), fun jx => if jx = 67 then .pointer (some ⟨m, 0, none⟩) else s jx, F8, by first | (simp [frR14]; done) | (simp [frR14]; rfl), by simpa using hsz, ⟨fun _ => rfl, I.v1, I.v2, I.v3, I.v4, I.v6, I.v7, I.v8, I.v9, I.v12, I.ma, I.mb, I.mv, I.c7, I.c8, I.sl, I.k11, I.za, I.zb⟩⟩
      · -- operation 1
        simp only [Region.binds, listed_bit hL] at hdep
        refine wpOp_step rfl (fun K' hK => ?_)
        go_simp
        exact hK _ _ ⟨_, bit_set hL hsz 1 (by omega), fun jx => if jx = 68 then .agg #[.bool true, .int .i64 23] else s jx, F8, by first | (simp [frR14]; done) | (simp [frR14]; rfl), by simpa using hsz, ⟨I.v0, fun _ => rfl, I.v2, I.v3, I.v4, I.v6, I.v7, I.v8, I.v9, I.v12, I.ma, I.mb, I.mv, I.c7, I.c8, I.sl, I.k11, I.za, I.zb⟩⟩
      · -- operation 2
        simp only [Region.binds, listed_bit hL] at hdep
        refine wpOp_step rfl (fun K' hK => ?_)
        go_simp
        exact hK _ _ ⟨_, bit_set hL hsz 2 (by omega), fun jx => if jx = 69 then .int .i64 n else s jx, F8, by first | (simp [frR14]; done) | (simp [frR14]; rfl), by simpa using hsz, ⟨I.v0, I.v1, fun _ => rfl, I.v3, I.v4, I.v6, I.v7, I.v8, I.v9, I.v12, I.ma, I.mb, I.mv, I.c7, I.c8, I.sl, I.k11, I.za, I.zb⟩⟩
      · -- operation 3
        simp only [Region.binds, listed_bit hL] at hdep
        have d2 : L 2 = true := by first | simpa [hL] using hdep | (simp [hL, Region.binds] at hdep; simp [hdep])
        have e2 := I.v2 d2
        refine wpOp_step rfl (fun K' hK => ?_)
        rw [e2]
        go_simp
        refine (HN.out _ _).mono ?_
        rintro e w3 ⟨rfl, x3⟩
        exact hK _ _ ⟨_, bit_set hL hsz 3 (by omega), fun jx => if jx = 70 then .agg #[.bool false, .int .i64 n] else s jx, F8, by first | (simp [frR14, e2]; done) | (simp [frR14, e2]; rfl), by simpa using hsz, ⟨I.v0, I.v1, I.v2, fun _ => rfl, I.v4, I.v6, I.v7, I.v8, I.v9, I.v12, fun h => (I.ma h).ext x3, fun h => (I.mb h).ext x3, I.mv.ext x3, I.c7, I.c8, fun h1 h2 => by obtain ⟨gs, y1, y2, y3⟩ := I.sl h1 h2; exact ⟨gs, y1, y2.ext x3, y3⟩, I.k11, fun h1 h2 => by obtain ⟨g, y1, y2, y3, y4⟩ := I.za h1 h2; exact ⟨g, y1, y2, y3.ext x3, y4⟩, fun h1 => by obtain ⟨g, y1, y2, y3, y4⟩ := I.zb h1; exact ⟨g, y1, y2, y3.ext x3, y4⟩⟩⟩
      · -- operation 4
        simp only [Region.binds, listed_bit hL] at hdep
        refine wpOp_step rfl (fun K' hK => ?_)
        go_simp
        exact hK _ _ ⟨_, bit_set hL hsz 4 (by omega), fun jx => if jx = 71 then .agg #[.bool false, .int .i64 vn] else s jx, F8, by first | (simp [frR14]; done) | (simp [frR14]; rfl), by simpa using hsz, ⟨I.v0, I.v1, I.v2, I.v3, fun _ => rfl, I.v6, I.v7, I.v8, I.v9, I.v12, I.ma, I.mb, I.mv, I.c7, I.c8, I.sl, I.k11, I.za, I.zb⟩⟩
      · -- operation 5
        simp only [Region.binds, listed_bit hL] at hdep
        have d3 : L 3 = true := by first | simpa [hL] using hdep | (simp [hL, Region.binds] at hdep; simp [hdep])
        have e3 := I.v3 d3
        have d4 : L 4 = true := by first | simpa [hL] using hdep | (simp [hL, Region.binds] at hdep; simp [hdep])
        have e4 := I.v4 d4
        refine wpOp_step rfl (fun K' hK => ?_)
        rw [e3, e4]
        go_simp
        exact hK _ _ ⟨_, bit_set hL hsz 5 (by omega), fun jx => if jx = 72 then .slice (some ⟨W.heap.size, 0, none⟩) 2 2 else s jx, F8, by first | (simp [frR14, e3, e4]; done) | (simp [frR14, e3, e4]; rfl), by simpa using hsz, ⟨I.v0, I.v1, I.v2, I.v3, I.v4, I.v6, I.v7, I.v8, I.v9, I.v12, fun h => (I.ma h).ext ((Ext.refl _).alloc _), fun h => (I.mb h).ext ((Ext.refl _).alloc _), I.mv.ext ((Ext.refl _).alloc _), I.c7, I.c8, fun _ _ => ⟨_, rfl, Blk.new _ _ _, fun hf => by have := hlt8 _ hf; omega⟩, I.k11, fun h1 h2 => by obtain ⟨g, y1, y2, y3, y4⟩ := I.za h1 h2; exact ⟨g, y1, y2, y3.ext ((Ext.refl _).alloc _), y4⟩, fun h1 => by obtain ⟨g, y1, y2, y3, y4⟩ := I.zb h1; exact ⟨g, y1, y2, y3.ext ((Ext.refl _).alloc _), y4⟩⟩⟩
      · -- operation 6
        simp only [Region.binds, listed_bit hL] at hdep
        have d0 : L 0 = true := by first | simpa [hL] using hdep | (simp [hL, Region.binds] at hdep; simp [hdep])
        have e0 := I.v0 d0
        have d1 : L 1 = true := by first | simpa [hL] using hdep | (simp [hL, Region.binds] at hdep; simp [hdep])
        have e1 := I.v1 d1
        have d5 : L 5 = true := by first | simpa [hL] using hdep | (simp [hL, Region.binds] at hdep; simp [hdep])
        obtain ⟨gs, e5, hgs, ngs⟩ := I.sl d5 hn0
        refine wpOp_step rfl (fun K' hK => ?_)
        rw [e0, e1, e5]
        go_simp
        refine (CO.out _ _ (I.ma hn0) gs hgs ngs).mono ?_
        rintro e w3 ⟨rfl, F9, m9, v9⟩
        exact hK _ _ ⟨_, bit_set hL hsz 6 (by omega), fun jx => if jx = 73 then .tuple #[.agg #[.bool ro, .int .i64 rn], .bool rk] else s jx, F9, by first | (simp [frR14, e0, e1, e5]; done) | (simp [frR14, e0, e1, e5]; rfl), by simpa using hsz, ⟨I.v0, I.v1, I.v2, I.v3, I.v4, fun _ => rfl, I.v7, I.v8, I.v9, I.v12, fun h => absurd h (by simp), fun _ => m9, I.mv.trans v9, fun _ => rfl, I.c8, fun _ h => absurd h (by simp), I.k11, fun h1 h2 => by obtain ⟨g, y1, y2, y3, y4⟩ := I.za h1 h2; obtain ⟨z1, z2⟩ := v9.blk y3 y4; exact ⟨g, y1, y2, z1, z2⟩, fun h1 => by obtain ⟨g, y1, y2, y3, y4⟩ := I.zb h1; obtain ⟨z1, z2⟩ := v9.blk y3 y4; exact ⟨g, y1, y2, z1, z2⟩⟩⟩
      · -- operation 7
        simp only [Region.binds, listed_bit hL] at hdep
        have d6 : L 6 = true := by first | simpa [hL] using hdep | (simp [hL, Region.binds] at hdep; simp [hdep])
        have e6 := I.v6 d6
        refine wpOp_step rfl (fun K' hK => ?_)
        rw [e6]
        go_simp
        exact hK _ _ ⟨_, bit_set hL hsz 7 (by omega), fun jx => if jx = 66 then .tuple #[.agg #[.bool ro, .int .i64 rn], .bool rk] else s jx, F8, by first | (simp [frR14, e6]; done) | (simp [frR14, e6]; rfl), by simpa using hsz, ⟨I.v0, I.v1, I.v2, I.v3, I.v4, I.v6, fun _ => rfl, I.v8, I.v9, I.v12, I.ma, I.mb, I.mv, fun _ => d6, fun _ => rfl, I.sl, I.k11, I.za, I.zb⟩⟩
      · -- operation 8
        simp only [Region.binds, listed_bit hL] at hdep
        have d7 : L 7 = true := by first | simpa [hL] using hdep | (simp [hL, Region.binds] at hdep; simp [hdep])
        have e7 := I.v7 d7
        refine wpOp_step rfl (fun K' hK => ?_)
        rw [e7]
        go_simp
        exact hK _ _ ⟨_, bit_set hL hsz 8 (by omega), fun jx => if jx = 74 then .agg #[.bool ro, .int .i64 rn] else s jx, F8, by first | (simp [frR14, e7]; done) | (simp [frR14, e7]; rfl), by simpa using hsz, ⟨I.v0, I.v1, I.v2, I.v3, I.v4, I.v6, I.v7, fun _ => rfl, I.v9, I.v12, I.ma, I.mb, I.mv, I.c7, fun _ => d7, I.sl, I.k11, I.za, I.zb⟩⟩
      · -- operation 9
        simp only [Region.binds, listed_bit hL] at hdep
        have d7 : L 7 = true := by first | simpa [hL] using hdep | (simp [hL, Region.binds] at hdep; simp [hdep])
        have e7 := I.v7 d7
        refine wpOp_step rfl (fun K' hK => ?_)
        rw [e7]
        go_simp
        exact hK _ _ ⟨_, bit_set hL hsz 9 (by omega), fun jx => if jx = 75 then .bool rk else s jx, F8, by first | (simp [frR14, e7]; done) | (simp [frR14, e7]; rfl), by simpa using hsz, ⟨I.v0, I.v1, I.v2, I.v3, I.v4, I.v6, I.v7, I.v8, fun _ => rfl, I.v12, I.ma, I.mb, I.mv, I.c7, I.c8, I.sl, I.k11, I.za, I.zb⟩⟩
      · -- operation 10
        simp only [Region.binds, listed_bit hL] at hdep
        have n11 : L 11 = false := by cases hh : L 11 with | false => rfl | true => rw [I.k11 hh] at hn0; cases hn0
        refine wpOp_step rfl (fun K' hK => ?_)
        go_simp
        exact hK _ _ ⟨_, bit_set hL hsz 10 (by omega), fun jx => if jx = 19 then .pointer (some ⟨W.heap.size, 0, none⟩) else s jx, F8, by first | (simp [frR14]; done) | (simp [frR14]; rfl), by simpa using hsz, ⟨I.v0, I.v1, I.v2, I.v3, I.v4, I.v6, I.v7, I.v8, I.v9, I.v12, fun h => (I.ma h).ext ((Ext.refl _).alloc _), fun h => (I.mb h).ext ((Ext.refl _).alloc _), I.mv.ext ((Ext.refl _).alloc _), I.c7, I.c8, fun h1 h2 => by obtain ⟨gs, y1, y2, y3⟩ := I.sl h1 h2; exact ⟨gs, y1, y2.ext ((Ext.refl _).alloc _), y3⟩, fun _ => rfl, fun _ _ => ⟨_, rfl, hfz, Blk.new _ _ _, fun hf => by have := hlt8 _ hf; omega⟩, fun h => absurd (show L 11 = true from h) (by rw [n11]; decide)⟩⟩
      · -- operation 11
        simp only [Region.binds, listed_bit hL] at hdep
        have d8 : L 8 = true := by first | simpa [hL] using hdep | (simp [hL, Region.binds] at hdep; simp [hdep])
        have e8 := I.v8 d8
        have d10 : L 10 = true := by first | simpa [hL] using hdep | (simp [hL, Region.binds] at hdep; simp [hdep])
        have d6 := I.c7 (I.c8 d8)
        obtain ⟨g, e10, hg, hB, hnF⟩ := I.za d10 hn0
        obtain ⟨q1, q2, q3⟩ := hB.rules
        refine wpOp_step rfl (fun K' hK => ?_)
        rw [e8, e10]
        have IX := Lib.hid I
        have HB := Lib.hid hB
        have HNF := Lib.hid hnF
        clear I hB hnF
        go_simp
        exact hK _ _ ⟨_, bit_set hL hsz 11 (by omega), s, F8, by first | (simp [frR14, e8, e10]; done) | (simp [frR14, e8, e10]; rfl), by simpa using hsz, ⟨IX.out.v0, IX.out.v1, IX.out.v2, IX.out.v3, IX.out.v4, IX.out.v6, IX.out.v7, IX.out.v8, IX.out.v9, IX.out.v12, fun h => absurd (show L 6 = false from h) (by rw [d6]; decide), fun h => (IX.out.mb h).far (((Keep.refl (· = g) W).setCell (p := ⟨g, 0, none⟩) rfl _).setCell (p := ⟨g, 1, none⟩) rfl _) (fun j e hf => HNF.out (e ▸ hf)), ⟨(IX.out.mv.keep.setNew (p := ⟨g, 0, none⟩) hg _).setNew (p := ⟨g, 1, none⟩) hg _, IX.out.mv.new⟩, IX.out.c7, IX.out.c8, fun _ h => absurd (show L 6 = false from h) (by rw [d6]; decide), fun _ => d10, fun _ h => absurd h (by simp), fun _ => ⟨g, e10, hg, (HB.out.set 0 _).set 1 _, HNF.out⟩⟩⟩
      · -- operation 12
        simp only [Region.binds, listed_bit hL] at hdep
        have d9 : L 9 = true := by first | simpa [hL] using hdep | (simp [hL, Region.binds] at hdep; simp [hdep])
        have e9 := I.v9 d9
        refine wpOp_step rfl (fun K' hK => ?_)
        rw [e9]
        go_simp
        exact hK _ _ ⟨_, bit_set hL hsz 12 (by omega), fun jx => if jx = 20 then .bool rk else s jx, F8, by first | (simp [frR14, e9]; done) | (simp [frR14, e9]; rfl), by simpa using hsz, ⟨I.v0, I.v1, I.v2, I.v3, I.v4, I.v6, I.v7, I.v8, I.v9, fun _ => rfl, I.ma, I.mb, I.mv, I.c7, I.c8, I.sl, I.k11, I.za, I.zb⟩⟩
    · rintro listed act W0 ⟨L, hL, s, F8, rfl, hsz, I⟩ hr
      have ALL : ∀ i, i < 13 → L i = true := fun i hi => by rw [← hL i]; exact all_listed_m (by kernel_rfl) hsz hr i hi
      have eK := I.v12 (ALL 12 (by omega))
      obtain ⟨gb, eB, hgb, bB, nB⟩ := I.zb (ALL 11 (by omega))
      have mN := I.mb (ALL 6 (by omega))
      have vN := I.mv
      clear I hL ALL hr hsz
      unfold frR14
      dsimp only
      rw [eK, eB, ← HU.out]
      clear HU eK eB
      simp only [Array.getD_eq_getD_getElem?, List.getElem?_toArray, List.getElem?_cons_succ, List.getElem?_cons_zero, Option.getD_some]
      have MY := Lib.hid mN
      obtain ⟨by13, _⟩ := vN.blk BZ.out NZ.out
      obtain ⟨by15, _⟩ := vN.blk BZ15.out N15.out
      obtain ⟨by18, _⟩ := vN.blk BZ18.out NZ18.out
      have BY := Lib.hid by13
      have BY15 := Lib.hid by15
      have BY18 := Lib.hid by18
      have BY19 := Lib.hid bB
      have XY : Hid (Ext w W0) := Lib.hid (Ext.of_below (Keep.below XZ.out.below vN.keep XZ.out.below.size (fun i hi h => by have := FL7.out i h; omega)))
      have PM23 : P.may ⟨true, 23⟩ = true := (HRP.out.1.may _).trans (tsf false 0 (by omega)).has
      obtain ⟨gk, go, gn, hgk, hgin, CG⟩ : ∃ (gk go : Bool) (gn : Int), gk = decide (1 ≤ n ∧ n ≤ k) ∧ (gk = true → go = false ∧ gn = vn) ∧ Hid (∀ W [x : IsExt W0 W], ∀ gs, Blk W gs 40 #[.bool false, .int .i64 n] → Calls Tryz.prog 27 #[.pointer (some ⟨m, 0, none⟩), .int .i64 24, .agg #[.bool true, .int .i64 23], .slice (some ⟨gs, 0, none⟩) 1 1] W fun e w' => e = .returned (.tuple #[.agg #[.bool go, .int .i64 gn], .bool gk]) ∧ Ext W w') := by
        by_cases hin : 1 ≤ n ∧ n ≤ k
        · obtain ⟨q0, hq0⟩ : ∃ q0 : Nat, (q0 : Int) + 1 = n := ⟨(n - 1).toNat, by omega⟩
          have er := (HIN.out (HRK.out.trans (decide_eq_true hin))).2.2 q0 hq0
          refine ⟨true, false, vn, (decide_eq_true hin).symm, fun _ => ⟨rfl, rfl⟩, Lib.hid (fun W ix gs hb => ?_)⟩
          exact pop24 (MY.out.ext ix.out) 23 n PM23 (MAY.out n (by omega) _) gs 1 hb false true vn (fun W' x' => by
            have q := HRP.out.1.get W' F8 m ((MY.out.ext ix.out).ext x') q0 (by omega)
            rw [er, hq0] at q; exact q)
        · refine ⟨false, false, 0, (decide_eq_false hin).symm, fun h => (by cases h), Lib.hid (fun W ix gs hb => ?_)⟩
          exact pop24 (MY.out.ext ix.out) 23 n PM23 (MAY.out n (by omega) _) gs 1 hb false false 0 (fun W' x' => pget_no ((MY.out.ext ix.out).ext x') 23 n (by omega) (by rw [HRP.out.1.sz]; exact hin))
      have HGK := Lib.hid hgk
      have HGIN := Lib.hid hgin
      clear mN vN bB by13 by15 by18 CO BZ BZ15 BZ18 MZ NZ N15 NZ18 XZ FL7 hgk hgin
      go_upto_region 15 with (fail)
      refine wp_any_act (fun A hA => ?_)
      have eA : A = frR15 m g13 n (fun q => A.tmps.getD q undef) (fun q => A.tmps.getD q undef) := by rw [hA]; rfl
      obtain ⟨uu, huu⟩ : ∃ uu, (fun q => A.tmps.getD q undef) = uu := ⟨_, rfl⟩
      rw [huu] at eA
      rw [hA] at huu
      have HU := Lib.hid huu
      clear hA huu
      subst eA
      refine wp_region_inv (Inv := R15Inv W0 m g13 n go gk gn uu) (by kernel_rfl) ?_ ?_ ?_
      · refine ⟨fun _ => false, fun k => ?_, uu, rfl, by simp, ⟨?_, ?_, ?_, ?_, ?_, ?_, ?_, ?_, ?_, ?_, ?_, ?_, ?_, ?_, ?_, ?_⟩⟩
        · rw [Array.getD_eq_getD_getElem?, Array.getElem?_replicate]; split <;> rfl
        · intro h; exact absurd h (by decide)
        · intro h; exact absurd h (by decide)
        · intro h; exact absurd h (by decide)
        · intro h; exact absurd h (by decide)
        · intro h; exact absurd h (by decide)
        · intro h; exact absurd h (by decide)
        · intro h; exact absurd h (by decide)
        · intro h; exact absurd h (by decide)
        · intro h; exact absurd h (by decide)
        · exact (Ext.refl _).drew
        · intro h; exact absurd h (by decide)
        · intro h; exact absurd h (by decide)
        · intro h; exact absurd h (by decide)
        · intro h; exact absurd h (by decide)
        · intro h; exact absurd h (by decide)
        · intro h; exact absurd h (by decide)
      · rintro listed act W ii ⟨L, hL, s, rfl, hsz, I⟩ hi
        obtain ⟨hlt, hnot, hdep⟩ := (ready_iff _ _).1 hi
        have hiN : ii < 12 := hlt
        have casesN : ii = 0 ∨ ii = 1 ∨ ii = 2 ∨ ii = 3 ∨ ii = 4 ∨ ii = 5 ∨ ii = 6 ∨ ii = 7 ∨ ii = 8 ∨ ii = 9 ∨ ii = 10 ∨ ii = 11 := by omega
        have hn0 : L ii = false := by rw [← hL ii]; exact not_bit hnot
        clear hi hlt hiN hnot
        have iW : IsExt W0 W := ⟨I.x⟩
        obtain ⟨p1, p2, p3⟩ := (BY.out.ext I.x).rules
        have hfz := I.x.below.size
        unfold frR15
        rcases casesN with rfl | rfl | rfl | rfl | rfl | rfl | rfl | rfl | rfl | rfl | rfl | rfl
        · -- operation 0
          simp only [Region.binds, listed_bit hL] at hdep
          refine wpOp_step rfl (fun K' hK => ?_)
          go_simp
          exact hK _ _ ⟨_, bit_set hL hsz 0 (by omega), fun jx => if jx = 77 then .pointer (some ⟨m, 0, none⟩) else s jx, by first | (simp [frR15]; done) | (simp [frR15]; rfl), by simpa using hsz, ⟨fun _ => rfl, I.v1, I.v2, I.v3, I.v5, I.v6, I.v7, I.v8, I.v11, I.x, I.c6, I.c7, I.sl, I.k10, I.za, I.zb⟩⟩
        · -- operation 1
          simp only [Region.binds, listed_bit hL] at hdep
          refine wpOp_step rfl (fun K' hK => ?_)
          go_simp
          exact hK _ _ ⟨_, bit_set hL hsz 1 (by omega), fun jx => if jx = 78 then .agg #[.bool true, .int .i64 23] else s jx, by first | (simp [frR15]; done) | (simp [frR15]; rfl), by simpa using hsz, ⟨I.v0, fun _ => rfl, I.v2, I.v3, I.v5, I.v6, I.v7, I.v8, I.v11, I.x, I.c6, I.c7, I.sl, I.k10, I.za, I.zb⟩⟩
        · -- operation 2
          simp only [Region.binds, listed_bit hL] at hdep
          refine wpOp_step rfl (fun K' hK => ?_)
          go_simp
          exact hK _ _ ⟨_, bit_set hL hsz 2 (by omega), fun jx => if jx = 79 then .int .i64 n else s jx, by first | (simp [frR15]; done) | (simp [frR15]; rfl), by simpa using hsz, ⟨I.v0, I.v1, fun _ => rfl, I.v3, I.v5, I.v6, I.v7, I.v8, I.v11, I.x, I.c6, I.c7, I.sl, I.k10, I.za, I.zb⟩⟩
        · -- operation 3
          simp only [Region.binds, listed_bit hL] at hdep
          have d2 : L 2 = true := by first | simpa [hL] using hdep | (simp [hL, Region.binds] at hdep; simp [hdep])
          have e2 := I.v2 d2
          refine wpOp_step rfl (fun K' hK => ?_)
          rw [e2]
          go_simp
          refine (HN.out _ _).mono ?_
          rintro e w3 ⟨rfl, x3⟩
          exact hK _ _ ⟨_, bit_set hL hsz 3 (by omega), fun jx => if jx = 80 then .agg #[.bool false, .int .i64 n] else s jx, by first | (simp [frR15, e2]; done) | (simp [frR15, e2]; rfl), by simpa using hsz, ⟨I.v0, I.v1, I.v2, fun _ => rfl, I.v5, I.v6, I.v7, I.v8, I.v11, I.x.trans x3, I.c6, I.c7, fun h1 h2 => by obtain ⟨gs, y1, y2⟩ := I.sl h1 h2; exact ⟨gs, y1, y2.ext x3⟩, I.k10, fun h1 h2 => by obtain ⟨g, y1, y2, y3⟩ := I.za h1 h2; exact ⟨g, y1, y2, y3.ext x3⟩, fun h1 => by obtain ⟨g, y1, y2, y3⟩ := I.zb h1; exact ⟨g, y1, y2, y3.ext x3⟩⟩⟩
        · -- operation 4
          simp only [Region.binds, listed_bit hL] at hdep
          have d3 : L 3 = true := by first | simpa [hL] using hdep | (simp [hL, Region.binds] at hdep; simp [hdep])
          have e3 := I.v3 d3
          have n5 : L 5 = L 5 := rfl
          refine wpOp_step rfl (fun K' hK => ?_)
          rw [e3]
          go_simp
          exact hK _ _ ⟨_, bit_set hL hsz 4 (by omega), fun jx => if jx = 81 then .slice (some ⟨W.heap.size, 0, none⟩) 1 1 else s jx, by first | (simp [frR15, e3]; done) | (simp [frR15, e3]; rfl), by simpa using hsz, ⟨I.v0, I.v1, I.v2, I.v3, I.v5, I.v6, I.v7, I.v8, I.v11, I.x.trans ((Ext.refl _).alloc _), I.c6, I.c7, fun _ _ => ⟨_, rfl, Blk.new _ _ _⟩, I.k10, fun h1 h2 => by obtain ⟨g, y1, y2, y3⟩ := I.za h1 h2; exact ⟨g, y1, y2, y3.ext ((Ext.refl _).alloc _)⟩, fun h1 => by obtain ⟨g, y1, y2, y3⟩ := I.zb h1; exact ⟨g, y1, y2, y3.ext ((Ext.refl _).alloc _)⟩⟩⟩
        · -- operation 5
          simp only [Region.binds, listed_bit hL] at hdep
          have d0 : L 0 = true := by first | simpa [hL] using hdep | (simp [hL, Region.binds] at hdep; simp [hdep])
          have e0 := I.v0 d0
          have d1 : L 1 = true := by first | simpa [hL] using hdep | (simp [hL, Region.binds] at hdep; simp [hdep])
          have e1 := I.v1 d1
          have d4 : L 4 = true := by first | simpa [hL] using hdep | (simp [hL, Region.binds] at hdep; simp [hdep])
          obtain ⟨gs, e4, hgs⟩ := I.sl d4 hn0
          refine wpOp_step rfl (fun K' hK => ?_)
          rw [e0, e1, e4]
          go_simp
          refine (CG.out _ gs hgs).mono ?_
          rintro e w3 ⟨rfl, x3⟩
          exact hK _ _ ⟨_, bit_set hL hsz 5 (by omega), fun jx => if jx = 82 then .tuple #[.agg #[.bool go, .int .i64 gn], .bool gk] else s jx, by first | (simp [frR15, e0, e1, e4]; done) | (simp [frR15, e0, e1, e4]; rfl), by simpa using hsz, ⟨I.v0, I.v1, I.v2, I.v3, fun _ => rfl, I.v6, I.v7, I.v8, I.v11, I.x.trans x3, fun _ => rfl, I.c7, fun _ h => absurd h (by simp), I.k10, fun h1 h2 => by obtain ⟨g, y1, y2, y3⟩ := I.za h1 h2; exact ⟨g, y1, y2, y3.ext x3⟩, fun h1 => by obtain ⟨g, y1, y2, y3⟩ := I.zb h1; exact ⟨g, y1, y2, y3.ext x3⟩⟩⟩
        · -- operation 6
          simp only [Region.binds, listed_bit hL] at hdep
          have d5 : L 5 = true := by first | simpa [hL] using hdep | (simp [hL, Region.binds] at hdep; simp [hdep])
          have e5 := I.v5 d5
          refine wpOp_step rfl (fun K' hK => ?_)
          rw [e5]
          go_simp
          exact hK _ _ ⟨_, bit_set hL hsz 6 (by omega), fun jx => if jx = 76 then .tuple #[.agg #[.bool go, .int .i64 gn], .bool gk] else s jx, by first | (simp [frR15, e5]; done) | (simp [frR15, e5]; rfl), by simpa using hsz, ⟨I.v0, I.v1, I.v2, I.v3, I.v5, fun _ => rfl, I.v7, I.v8, I.v11, I.x, fun _ => d5, fun _ => rfl, I.sl, I.k10, I.za, I.zb⟩⟩
        · -- operation 7
          simp only [Region.binds, listed_bit hL] at hdep
          have d6 : L 6 = true := by first | simpa [hL] using hdep | (simp [hL, Region.binds] at hdep; simp [hdep])
          have e6 := I.v6 d6
          refine wpOp_step rfl (fun K' hK => ?_)
          rw [e6]
          go_simp
          exact hK _ _ ⟨_, bit_set hL hsz 7 (by omega), fun jx => if jx = 83 then .agg #[.bool go, .int .i64 gn] else s jx, by first | (simp [frR15, e6]; done) | (simp [frR15, e6]; rfl), by simpa using hsz, ⟨I.v0, I.v1, I.v2, I.v3, I.v5, I.v6, fun _ => rfl, I.v8, I.v11, I.x, I.c6, fun _ => d6, I.sl, I.k10, I.za, I.zb⟩⟩
        · -- operation 8
          simp only [Region.binds, listed_bit hL] at hdep
          have d6 : L 6 = true := by first | simpa [hL] using hdep | (simp [hL, Region.binds] at hdep; simp [hdep])
          have e6 := I.v6 d6
          refine wpOp_step rfl (fun K' hK => ?_)
          rw [e6]
          go_simp
          exact hK _ _ ⟨_, bit_set hL hsz 8 (by omega), fun jx => if jx = 84 then .bool gk else s jx, by first | (simp [frR15, e6]; done) | (simp [frR15, e6]; rfl), by simpa using hsz, ⟨I.v0, I.v1, I.v2, I.v3, I.v5, I.v6, I.v7, fun _ => rfl, I.v11, I.x, I.c6, I.c7, I.sl, I.k10, I.za, I.zb⟩⟩
        · -- operation 9
          simp only [Region.binds, listed_bit hL] at hdep
          have n10 : L 10 = false := by cases hh : L 10 with | false => rfl | true => rw [I.k10 hh] at hn0; cases hn0
          refine wpOp_step rfl (fun K' hK => ?_)
          go_simp
          exact hK _ _ ⟨_, bit_set hL hsz 9 (by omega), fun jx => if jx = 21 then .pointer (some ⟨W.heap.size, 0, none⟩) else s jx, by first | (simp [frR15]; done) | (simp [frR15]; rfl), by simpa using hsz, ⟨I.v0, I.v1, I.v2, I.v3, I.v5, I.v6, I.v7, I.v8, I.v11, I.x.trans ((Ext.refl _).alloc _), I.c6, I.c7, fun h1 h2 => by obtain ⟨gs, y1, y2⟩ := I.sl h1 h2; exact ⟨gs, y1, y2.ext ((Ext.refl _).alloc _)⟩, fun _ => rfl, fun _ _ => ⟨_, rfl, hfz, Blk.new _ _ _⟩, fun h => absurd (show L 10 = true from h) (by rw [n10]; decide)⟩⟩
        · -- operation 10
          simp only [Region.binds, listed_bit hL] at hdep
          have d7 : L 7 = true := by first | simpa [hL] using hdep | (simp [hL, Region.binds] at hdep; simp [hdep])
          have e7 := I.v7 d7
          have d9 : L 9 = true := by first | simpa [hL] using hdep | (simp [hL, Region.binds] at hdep; simp [hdep])
          have d5 := I.c6 (I.c7 d7)
          obtain ⟨g, e9, hg, hB⟩ := I.za d9 hn0
          obtain ⟨q1, q2, q3⟩ := hB.rules
          refine wpOp_step rfl (fun K' hK => ?_)
          rw [e7, e9]
          have IX := Lib.hid I
          have HB := Lib.hid hB
          clear I hB
          go_simp
          exact hK _ _ ⟨_, bit_set hL hsz 10 (by omega), s, by first | (simp [frR15, e7, e9]; done) | (simp [frR15, e7, e9]; rfl), by simpa using hsz, ⟨IX.out.v0, IX.out.v1, IX.out.v2, IX.out.v3, IX.out.v5, IX.out.v6, IX.out.v7, IX.out.v8, IX.out.v11, (IX.out.x.setNew (p := ⟨g, 0, none⟩) hg _).setNew (p := ⟨g, 1, none⟩) hg _, IX.out.c6, IX.out.c7, fun _ h => absurd (show L 5 = false from h) (by rw [d5]; decide), fun _ => d9, fun _ h => absurd h (by simp), fun _ => ⟨g, e9, hg, (HB.out.set 0 _).set 1 _⟩⟩⟩
        · -- operation 11
          simp only [Region.binds, listed_bit hL] at hdep
          have d8 : L 8 = true := by first | simpa [hL] using hdep | (simp [hL, Region.binds] at hdep; simp [hdep])
          have e8 := I.v8 d8
          refine wpOp_step rfl (fun K' hK => ?_)
          rw [e8]
          go_simp
          exact hK _ _ ⟨_, bit_set hL hsz 11 (by omega), fun jx => if jx = 22 then .bool gk else s jx, by first | (simp [frR15, e8]; done) | (simp [frR15, e8]; rfl), by simpa using hsz, ⟨I.v0, I.v1, I.v2, I.v3, I.v5, I.v6, I.v7, I.v8, fun _ => rfl, I.x, I.c6, I.c7, I.sl, I.k10, I.za, I.zb⟩⟩
      · rintro listed act W1 ⟨L, hL, s, rfl, hsz, I⟩ hr
        have ALL : ∀ i, i < 12 → L i = true := fun i hi => by rw [← hL i]; exact all_listed_m (by kernel_rfl) hsz hr i hi
        have eK := I.v11 (ALL 11 (by omega))
        obtain ⟨gc, eB, hgc, bC⟩ := I.zb (ALL 10 (by omega))
        have xN := I.x
        clear I hL ALL hr hsz
        unfold frR15
        dsimp only
        rw [eK, eB, ← HU.out]
        clear HU eK eB
        simp only [Array.getD_eq_getD_getElem?, List.getElem?_toArray, List.getElem?_cons_succ, List.getElem?_cons_zero, Option.getD_some]
        have BW15 := Lib.hid (BY15.out.ext xN)
        have BW := Lib.hid (BY.out.ext xN)
        have MW := Lib.hid (MY.out.ext xN)
        have XW := Lib.hid (XY.out.trans xN)
        obtain ⟨c1, c2, c3⟩ := (BY18.out.ext xN).rules
        obtain ⟨d1, d2, d3⟩ := (BY19.out.ext xN).rules
        obtain ⟨e1, e2, e3⟩ := bC.rules
        clear BY BY15 BY18 BY19 MY XY xN bC CG
        by_cases hin : 1 ≤ n ∧ n ≤ k
        · have hk1 : rk = true := HRK.out.trans (decide_eq_true hin)
          have hk2 : gk = true := HGK.out.trans (decide_eq_true hin)
          obtain ⟨hr1, hr2, _⟩ := HIN.out hk1
          obtain ⟨hg1, hg2⟩ := HGIN.out hk2
          rw [hk1, hk2]
          rw [hr1, hr2] at d1
          rw [hg1, hg2] at e1
          obtain ⟨n1, n2⟩ := hin
          have t1 : decide (1 ≤ n) = true := decide_eq_true n1
          have t2 : decide (n ≤ (k : Int)) = true := decide_eq_true n2
          clear HIN HRK HGK HGIN hk1 hk2 hr1 hr2 hg1 hg2
          go_wp2_with fail
          go_loopw [24] (fun jv wr => ∃ j : Nat, 1 ≤ j ∧ j ≤ k + 1 ∧ jv = .int .i64 j ∧ Ext W1 wr) (fun jv _ => k + 1 - (intOf jv).toNat)
          case atStart => exact ⟨1, by omega, by omega, rfl, Ext.refl _⟩
          case round =>
            clear c1 c2 c3 d1 d2 d3 e1 e2 e3
            obtain ⟨j, j1, jk, rfl, xr⟩ := hrel
            by_cases hle : j ≤ k
            · have jI : (j : Int) ≤ (k : Int) := by omega
              have BR := Lib.hid (BW.out.ext xr)
              have MR := Lib.hid (MW.out.ext xr)
              have XQ := Lib.hid xr
              obtain ⟨uo, un, hun, CU⟩ : ∃ (uo : Bool) (un : Int), (¬ (j : Int) = n → un = 0) ∧ Hid (∀ W [x : IsExt wr W], ∀ gs, Blk W gs 40 #[.bool false, .int .i64 (j : Int)] → Calls Tryz.prog 27 #[.pointer (some ⟨m, 0, none⟩), .int .i64 24, .agg #[.bool true, .int .i64 23], .slice (some ⟨gs, 0, none⟩) 1 1] W fun e w' => e = .returned (.tuple #[.agg #[.bool uo, .int .i64 un], .bool true]) ∧ Ext W w') := by
                obtain ⟨q, hq⟩ : ∃ q : Nat, (q : Int) + 1 = (j : Int) := ⟨j - 1, by omega⟩
                refine ⟨(rd q).obj, (rd q).n, fun h => HRP.out.2 q (by omega) (by omega), Lib.hid (fun W ix gs hb => ?_)⟩
                exact pop24 (MR.out.ext ix.out) 23 (j : Int) PM23 (MAY.out (j : Int) (by omega) _) gs 1 hb _ true _ (fun W' x' => by
                  have r := HRP.out.1.get W' F8 m ((MR.out.ext ix.out).ext x') q (by omega)
                  rw [hq] at r; exact r)
              clear MR xr
              go_upto_region 22 with (fail)
              refine wp_any_act (fun A hA => ?_)
              have eA : A = frR22 m g13 (j : Int) (fun q => A.tmps.getD q undef) (fun q => A.tmps.getD q undef) := by rw [hA]; rfl
              obtain ⟨uu, huu⟩ : ∃ uu, (fun q => A.tmps.getD q undef) = uu := ⟨_, rfl⟩
              rw [huu] at eA
              rw [hA] at huu
              have HU := Lib.hid huu
              clear hA huu
              subst eA
              refine wp_region_inv (Inv := R22Inv wr m g13 (j : Int) uo true un uu) (by kernel_rfl) ?_ ?_ ?_
              · refine ⟨fun _ => false, fun k => ?_, uu, rfl, by simp, ⟨?_, ?_, ?_, ?_, ?_, ?_, ?_, ?_, ?_, ?_, ?_, ?_, ?_, ?_, ?_, ?_⟩⟩
                · rw [Array.getD_eq_getD_getElem?, Array.getElem?_replicate]; split <;> rfl
                · intro h; exact absurd h (by decide)
                · intro h; exact absurd h (by decide)
                · intro h; exact absurd h (by decide)
                · intro h; exact absurd h (by decide)
                · intro h; exact absurd h (by decide)
                · intro h; exact absurd h (by decide)
                · intro h; exact absurd h (by decide)
                · intro h; exact absurd h (by decide)
                · intro h; exact absurd h (by decide)
                · exact (Ext.refl _).drew
                · intro h; exact absurd h (by decide)
                · intro h; exact absurd h (by decide)
                · intro h; exact absurd h (by decide)
                · intro h; exact absurd h (by decide)
                · intro h; exact absurd h (by decide)
                · intro h; exact absurd h (by decide)
              · rintro listed act W ii ⟨L, hL, s, rfl, hsz, I⟩ hi
                obtain ⟨hlt, hnot, hdep⟩ := (ready_iff _ _).1 hi
                have hiN : ii < 12 := hlt
                have casesN : ii = 0 ∨ ii = 1 ∨ ii = 2 ∨ ii = 3 ∨ ii = 4 ∨ ii = 5 ∨ ii = 6 ∨ ii = 7 ∨ ii = 8 ∨ ii = 9 ∨ ii = 10 ∨ ii = 11 := by omega
                have hn0 : L ii = false := by rw [← hL ii]; exact not_bit hnot
                clear hi hlt hiN hnot
                have iW : IsExt wr W := ⟨I.x⟩
                obtain ⟨p1, p2, p3⟩ := (BR.out.ext I.x).rules
                have hfz := I.x.below.size
                unfold frR22
                rcases casesN with rfl | rfl | rfl | rfl | rfl | rfl | rfl | rfl | rfl | rfl | rfl | rfl
                · -- operation 0
                  simp only [Region.binds, listed_bit hL] at hdep
                  refine wpOp_step rfl (fun K' hK => ?_)
                  go_simp
                  exact hK _ _ ⟨_, bit_set hL hsz 0 (by omega), fun jx => if jx = 127 then .pointer (some ⟨m, 0, none⟩) else s jx, by first | (simp [frR22]; done) | (simp [frR22]; rfl), by simpa using hsz, ⟨fun _ => rfl, I.v1, I.v2, I.v3, I.v5, I.v6, I.v7, I.v8, I.v11, I.x, I.c6, I.c7, I.sl, I.k10, I.za, I.zb⟩⟩
                · -- operation 1
                  simp only [Region.binds, listed_bit hL] at hdep
                  refine wpOp_step rfl (fun K' hK => ?_)
                  go_simp
                  exact hK _ _ ⟨_, bit_set hL hsz 1 (by omega), fun jx => if jx = 128 then .agg #[.bool true, .int .i64 23] else s jx, by first | (simp [frR22]; done) | (simp [frR22]; rfl), by simpa using hsz, ⟨I.v0, fun _ => rfl, I.v2, I.v3, I.v5, I.v6, I.v7, I.v8, I.v11, I.x, I.c6, I.c7, I.sl, I.k10, I.za, I.zb⟩⟩
                · -- operation 2
                  simp only [Region.binds, listed_bit hL] at hdep
                  refine wpOp_step rfl (fun K' hK => ?_)
                  go_simp
                  exact hK _ _ ⟨_, bit_set hL hsz 2 (by omega), fun jx => if jx = 129 then .int .i64 (j : Int) else s jx, by first | (simp [frR22]; done) | (simp [frR22]; rfl), by simpa using hsz, ⟨I.v0, I.v1, fun _ => rfl, I.v3, I.v5, I.v6, I.v7, I.v8, I.v11, I.x, I.c6, I.c7, I.sl, I.k10, I.za, I.zb⟩⟩
                · -- operation 3
                  simp only [Region.binds, listed_bit hL] at hdep
                  have d2 : L 2 = true := by first | simpa [hL] using hdep | (simp [hL, Region.binds] at hdep; simp [hdep])
                  have e2 := I.v2 d2
                  refine wpOp_step rfl (fun K' hK => ?_)
                  rw [e2]
                  go_simp
                  refine (HN.out _ _).mono ?_
                  rintro e w3 ⟨rfl, x3⟩
                  exact hK _ _ ⟨_, bit_set hL hsz 3 (by omega), fun jx => if jx = 130 then .agg #[.bool false, .int .i64 (j : Int)] else s jx, by first | (simp [frR22, e2]; done) | (simp [frR22, e2]; rfl), by simpa using hsz, ⟨I.v0, I.v1, I.v2, fun _ => rfl, I.v5, I.v6, I.v7, I.v8, I.v11, I.x.trans x3, I.c6, I.c7, fun h1 h2 => by obtain ⟨gs, y1, y2⟩ := I.sl h1 h2; exact ⟨gs, y1, y2.ext x3⟩, I.k10, fun h1 h2 => by obtain ⟨g, y1, y2, y3⟩ := I.za h1 h2; exact ⟨g, y1, y2, y3.ext x3⟩, fun h1 => by obtain ⟨g, y1, y2, y3⟩ := I.zb h1; exact ⟨g, y1, y2, y3.ext x3⟩⟩⟩
                · -- operation 4
                  simp only [Region.binds, listed_bit hL] at hdep
                  have d3 : L 3 = true := by first | simpa [hL] using hdep | (simp [hL, Region.binds] at hdep; simp [hdep])
                  have e3 := I.v3 d3
                  have n5 : L 5 = L 5 := rfl
                  refine wpOp_step rfl (fun K' hK => ?_)
                  rw [e3]
                  go_simp
                  exact hK _ _ ⟨_, bit_set hL hsz 4 (by omega), fun jx => if jx = 131 then .slice (some ⟨W.heap.size, 0, none⟩) 1 1 else s jx, by first | (simp [frR22, e3]; done) | (simp [frR22, e3]; rfl), by simpa using hsz, ⟨I.v0, I.v1, I.v2, I.v3, I.v5, I.v6, I.v7, I.v8, I.v11, I.x.trans ((Ext.refl _).alloc _), I.c6, I.c7, fun _ _ => ⟨_, rfl, Blk.new _ _ _⟩, I.k10, fun h1 h2 => by obtain ⟨g, y1, y2, y3⟩ := I.za h1 h2; exact ⟨g, y1, y2, y3.ext ((Ext.refl _).alloc _)⟩, fun h1 => by obtain ⟨g, y1, y2, y3⟩ := I.zb h1; exact ⟨g, y1, y2, y3.ext ((Ext.refl _).alloc _)⟩⟩⟩
                · -- operation 5
                  simp only [Region.binds, listed_bit hL] at hdep
                  have d0 : L 0 = true := by first | simpa [hL] using hdep | (simp [hL, Region.binds] at hdep; simp [hdep])
                  have e0 := I.v0 d0
                  have d1 : L 1 = true := by first | simpa [hL] using hdep | (simp [hL, Region.binds] at hdep; simp [hdep])
                  have e1 := I.v1 d1
                  have d4 : L 4 = true := by first | simpa [hL] using hdep | (simp [hL, Region.binds] at hdep; simp [hdep])
                  obtain ⟨gs, e4, hgs⟩ := I.sl d4 hn0
                  refine wpOp_step rfl (fun K' hK => ?_)
                  rw [e0, e1, e4]
                  go_simp
                  refine (CU.out _ gs hgs).mono ?_
                  rintro e w3 ⟨rfl, x3⟩
                  exact hK _ _ ⟨_, bit_set hL hsz 5 (by omega), fun jx => if jx = 132 then .tuple #[.agg #[.bool uo, .int .i64 un], .bool true] else s jx, by first | (simp [frR22, e0, e1, e4]; done) | (simp [frR22, e0, e1, e4]; rfl), by simpa using hsz, ⟨I.v0, I.v1, I.v2, I.v3, fun _ => rfl, I.v6, I.v7, I.v8, I.v11, I.x.trans x3, fun _ => rfl, I.c7, fun _ h => absurd h (by simp), I.k10, fun h1 h2 => by obtain ⟨g, y1, y2, y3⟩ := I.za h1 h2; exact ⟨g, y1, y2, y3.ext x3⟩, fun h1 => by obtain ⟨g, y1, y2, y3⟩ := I.zb h1; exact ⟨g, y1, y2, y3.ext x3⟩⟩⟩
                · -- operation 6
                  simp only [Region.binds, listed_bit hL] at hdep
                  have d5 : L 5 = true := by first | simpa [hL] using hdep | (simp [hL, Region.binds] at hdep; simp [hdep])
                  have e5 := I.v5 d5
                  refine wpOp_step rfl (fun K' hK => ?_)
                  rw [e5]
                  go_simp
                  exact hK _ _ ⟨_, bit_set hL hsz 6 (by omega), fun jx => if jx = 126 then .tuple #[.agg #[.bool uo, .int .i64 un], .bool true] else s jx, by first | (simp [frR22, e5]; done) | (simp [frR22, e5]; rfl), by simpa using hsz, ⟨I.v0, I.v1, I.v2, I.v3, I.v5, fun _ => rfl, I.v7, I.v8, I.v11, I.x, fun _ => d5, fun _ => rfl, I.sl, I.k10, I.za, I.zb⟩⟩
                · -- operation 7
                  simp only [Region.binds, listed_bit hL] at hdep
                  have d6 : L 6 = true := by first | simpa [hL] using hdep | (simp [hL, Region.binds] at hdep; simp [hdep])
                  have e6 := I.v6 d6
                  refine wpOp_step rfl (fun K' hK => ?_)
                  rw [e6]
                  go_simp
                  exact hK _ _ ⟨_, bit_set hL hsz 7 (by omega), fun jx => if jx = 133 then .agg #[.bool uo, .int .i64 un] else s jx, by first | (simp [frR22, e6]; done) | (simp [frR22, e6]; rfl), by simpa using hsz, ⟨I.v0, I.v1, I.v2, I.v3, I.v5, I.v6, fun _ => rfl, I.v8, I.v11, I.x, I.c6, fun _ => d6, I.sl, I.k10, I.za, I.zb⟩⟩
                · -- operation 8
                  simp only [Region.binds, listed_bit hL] at hdep
                  have d6 : L 6 = true := by first | simpa [hL] using hdep | (simp [hL, Region.binds] at hdep; simp [hdep])
                  have e6 := I.v6 d6
                  refine wpOp_step rfl (fun K' hK => ?_)
                  rw [e6]
                  go_simp
                  exact hK _ _ ⟨_, bit_set hL hsz 8 (by omega), fun jx => if jx = 134 then .bool true else s jx, by first | (simp [frR22, e6]; done) | (simp [frR22, e6]; rfl), by simpa using hsz, ⟨I.v0, I.v1, I.v2, I.v3, I.v5, I.v6, I.v7, fun _ => rfl, I.v11, I.x, I.c6, I.c7, I.sl, I.k10, I.za, I.zb⟩⟩
                · -- operation 9
                  simp only [Region.binds, listed_bit hL] at hdep
                  have n10 : L 10 = false := by cases hh : L 10 with | false => rfl | true => rw [I.k10 hh] at hn0; cases hn0
                  refine wpOp_step rfl (fun K' hK => ?_)
                  go_simp
                  exact hK _ _ ⟨_, bit_set hL hsz 9 (by omega), fun jx => if jx = 25 then .pointer (some ⟨W.heap.size, 0, none⟩) else s jx, by first | (simp [frR22]; done) | (simp [frR22]; rfl), by simpa using hsz, ⟨I.v0, I.v1, I.v2, I.v3, I.v5, I.v6, I.v7, I.v8, I.v11, I.x.trans ((Ext.refl _).alloc _), I.c6, I.c7, fun h1 h2 => by obtain ⟨gs, y1, y2⟩ := I.sl h1 h2; exact ⟨gs, y1, y2.ext ((Ext.refl _).alloc _)⟩, fun _ => rfl, fun _ _ => ⟨_, rfl, hfz, Blk.new _ _ _⟩, fun h => absurd (show L 10 = true from h) (by rw [n10]; decide)⟩⟩
                · -- operation 10
                  simp only [Region.binds, listed_bit hL] at hdep
                  have d7 : L 7 = true := by first | simpa [hL] using hdep | (simp [hL, Region.binds] at hdep; simp [hdep])
                  have e7 := I.v7 d7
                  have d9 : L 9 = true := by first | simpa [hL] using hdep | (simp [hL, Region.binds] at hdep; simp [hdep])
                  have d5 := I.c6 (I.c7 d7)
                  obtain ⟨g, e9, hg, hB⟩ := I.za d9 hn0
                  obtain ⟨q1, q2, q3⟩ := hB.rules
                  refine wpOp_step rfl (fun K' hK => ?_)
                  rw [e7, e9]
                  have IX := Lib.hid I
                  have HB := Lib.hid hB
                  clear I hB
                  go_simp
                  exact hK _ _ ⟨_, bit_set hL hsz 10 (by omega), s, by first | (simp [frR22, e7, e9]; done) | (simp [frR22, e7, e9]; rfl), by simpa using hsz, ⟨IX.out.v0, IX.out.v1, IX.out.v2, IX.out.v3, IX.out.v5, IX.out.v6, IX.out.v7, IX.out.v8, IX.out.v11, (IX.out.x.setNew (p := ⟨g, 0, none⟩) hg _).setNew (p := ⟨g, 1, none⟩) hg _, IX.out.c6, IX.out.c7, fun _ h => absurd (show L 5 = false from h) (by rw [d5]; decide), fun _ => d9, fun _ h => absurd h (by simp), fun _ => ⟨g, e9, hg, (HB.out.set 0 _).set 1 _⟩⟩⟩
                · -- operation 11
                  simp only [Region.binds, listed_bit hL] at hdep
                  have d8 : L 8 = true := by first | simpa [hL] using hdep | (simp [hL, Region.binds] at hdep; simp [hdep])
                  have e8 := I.v8 d8
                  refine wpOp_step rfl (fun K' hK => ?_)
                  rw [e8]
                  go_simp
                  exact hK _ _ ⟨_, bit_set hL hsz 11 (by omega), fun jx => if jx = 26 then .bool true else s jx, by first | (simp [frR22, e8]; done) | (simp [frR22, e8]; rfl), by simpa using hsz, ⟨I.v0, I.v1, I.v2, I.v3, I.v5, I.v6, I.v7, I.v8, fun _ => rfl, I.x, I.c6, I.c7, I.sl, I.k10, I.za, I.zb⟩⟩
              · rintro listed act W2 ⟨L, hL, s, rfl, hsz, I⟩ hr
                have ALL : ∀ i, i < 12 → L i = true := fun i hi => by rw [← hL i]; exact all_listed_m (by kernel_rfl) hsz hr i hi
                have eK := I.v11 (ALL 11 (by omega))
                obtain ⟨gu, eB, hgu, bU⟩ := I.zb (ALL 10 (by omega))
                have xN := I.x
                clear I hL ALL hr hsz
                unfold frR22
                dsimp only
                rw [eK, eB, ← HU.out]
                clear HU eK eB
                simp only [Array.getD_eq_getD_getElem?, List.getElem?_toArray, List.getElem?_cons_succ, List.getElem?_cons_zero, Option.getD_some]
                have XR := Lib.hid (XQ.out.trans xN)
                obtain ⟨e1, e2, e3⟩ := bU.rules
                clear bU xN CU BR
                by_cases hjn : (j : Int) = n
                · have hb : ((j : Int) == n) = true := beq_iff_eq.2 hjn
                  go_wp2_with fail
                  go_roundw
                  case rel => exact ⟨j + 1, by omega, by omega, by go_num, XR.out⟩
                  case measure => simp [intOf]; omega
                · have hb : ((j : Int) == n) = false := beq_eq_false_iff_ne.2 hjn
                  have hu := hun hjn
                  rw [hu] at e1
                  go_wp2_with fail
                  go_roundw
                  case rel => exact ⟨j + 1, by omega, by omega, by go_num, XR.out⟩
                  case measure => simp [intOf]; omega
            · obtain rfl : j = k + 1 := by omega
              have jI : ¬ (((k + 1 : Nat) : Int)) ≤ (k : Int) := by omega
              obtain ⟨c1, c2, c3⟩ := (BW15.out.ext xr).rules
              have XR := Lib.hid (XW.out.trans xr)
              clear xr BW15 BW MW
              go_wp2_with fail
              refine (AW.out _).mono ?_
              rintro e we ⟨rfl, xx⟩
              go_wp2_with fail
              go_ret
              exact ⟨rfl, (XR.out.trans xx).below⟩
        · have hk1 : rk = false := HRK.out.trans (decide_eq_false hin)
          have hk2 : gk = false := HGK.out.trans (decide_eq_false hin)
          rw [hk1, hk2]
          have hno : 1 ≤ n → ¬ n ≤ (k : Int) := fun a b => hin ⟨a, b⟩
          clear HIN HRK HGK HGIN hk1 hk2 hin
          by_cases n1 : 1 ≤ n
          · have n2 : ¬ n ≤ (k : Int) := hno n1
            have t1 : decide (1 ≤ n) = true := decide_eq_true n1
            have t2 : decide (n ≤ (k : Int)) = false := decide_eq_false n2
            clear hno
            go_wp2_with fail
            go_loopw [24] (fun jv wr => ∃ j : Nat, 1 ≤ j ∧ j ≤ k + 1 ∧ jv = .int .i64 j ∧ Ext W1 wr) (fun jv _ => k + 1 - (intOf jv).toNat)
            case atStart => exact ⟨1, by omega, by omega, rfl, Ext.refl _⟩
            case round =>
              clear c1 c2 c3 d1 d2 d3 e1 e2 e3
              obtain ⟨j, j1, jk, rfl, xr⟩ := hrel
              by_cases hle : j ≤ k
              · have jI : (j : Int) ≤ (k : Int) := by omega
                have BR := Lib.hid (BW.out.ext xr)
                have MR := Lib.hid (MW.out.ext xr)
                have XQ := Lib.hid xr
                obtain ⟨uo, un, hun, CU⟩ : ∃ (uo : Bool) (un : Int), (¬ (j : Int) = n → un = 0) ∧ Hid (∀ W [x : IsExt wr W], ∀ gs, Blk W gs 40 #[.bool false, .int .i64 (j : Int)] → Calls Tryz.prog 27 #[.pointer (some ⟨m, 0, none⟩), .int .i64 24, .agg #[.bool true, .int .i64 23], .slice (some ⟨gs, 0, none⟩) 1 1] W fun e w' => e = .returned (.tuple #[.agg #[.bool uo, .int .i64 un], .bool true]) ∧ Ext W w') := by
                  obtain ⟨q, hq⟩ : ∃ q : Nat, (q : Int) + 1 = (j : Int) := ⟨j - 1, by omega⟩
                  refine ⟨(rd q).obj, (rd q).n, fun h => HRP.out.2 q (by omega) (by omega), Lib.hid (fun W ix gs hb => ?_)⟩
                  exact pop24 (MR.out.ext ix.out) 23 (j : Int) PM23 (MAY.out (j : Int) (by omega) _) gs 1 hb _ true _ (fun W' x' => by
                    have r := HRP.out.1.get W' F8 m ((MR.out.ext ix.out).ext x') q (by omega)
                    rw [hq] at r; exact r)
                clear MR xr
                go_upto_region 22 with (fail)
                refine wp_any_act (fun A hA => ?_)
                have eA : A = frR22 m g13 (j : Int) (fun q => A.tmps.getD q undef) (fun q => A.tmps.getD q undef) := by rw [hA]; rfl
                obtain ⟨uu, huu⟩ : ∃ uu, (fun q => A.tmps.getD q undef) = uu := ⟨_, rfl⟩
                rw [huu] at eA
                rw [hA] at huu
                have HU := Lib.hid huu
                clear hA huu
                subst eA
                refine wp_region_inv (Inv := R22Inv wr m g13 (j : Int) uo true un uu) (by kernel_rfl) ?_ ?_ ?_
                · refine ⟨fun _ => false, fun k => ?_, uu, rfl, by simp, ⟨?_, ?_, ?_, ?_, ?_, ?_, ?_, ?_, ?_, ?_, ?_, ?_, ?_, ?_, ?_, ?_⟩⟩
                  · rw [Array.getD_eq_getD_getElem?, Array.getElem?_replicate]; split <;> rfl
                  · intro h; exact absurd h (by decide)
                  · intro h; exact absurd h (by decide)
                  · intro h; exact absurd h (by decide)
                  · intro h; exact absurd h (by decide)
                  · intro h; exact absurd h (by decide)
                  · intro h; exact absurd h (by decide)
                  · intro h; exact absurd h (by decide)
                  · intro h; exact absurd h (by decide)
                  · intro h; exact absurd h (by decide)
                  · exact (Ext.refl _).drew
                  · intro h; exact absurd h (by decide)
                  · intro h; exact absurd h (by decide)
                  · intro h; exact absurd h (by decide)
                  · intro h; exact absurd h (by decide)
                  · intro h; exact absurd h (by decide)
                  · intro h; exact absurd h (by decide)
                · rintro listed act W ii ⟨L, hL, s, rfl, hsz, I⟩ hi
                  obtain ⟨hlt, hnot, hdep⟩ := (ready_iff _ _).1 hi
                  have hiN : ii < 12 := hlt
                  have casesN : ii = 0 ∨ ii = 1 ∨ ii = 2 ∨ ii = 3 ∨ ii = 4 ∨ ii = 5 ∨ ii = 6 ∨ ii = 7 ∨ ii = 8 ∨ ii = 9 ∨ ii = 10 ∨ ii = 11 := by omega
                  have hn0 : L ii = false := by rw [← hL ii]; exact not_bit hnot
                  clear hi hlt hiN hnot
                  have iW : IsExt wr W := ⟨I.x⟩
                  obtain ⟨p1, p2, p3⟩ := (BR.out.ext I.x).rules
                  have hfz := I.x.below.size
                  unfold frR22
                  rcases casesN with rfl | rfl | rfl | rfl | rfl | rfl | rfl | rfl | rfl | rfl | rfl | rfl
                  · -- operation 0
                    simp only [Region.binds, listed_bit hL] at hdep
                    refine wpOp_step rfl (fun K' hK => ?_)
                    go_simp
                    exact hK _ _ ⟨_, bit_set hL hsz 0 (by omega), fun jx => if jx = 127 then .pointer (some ⟨m, 0, none⟩) else s jx, by first | (simp [frR22]; done) | (simp [frR22]; rfl), by simpa using hsz, ⟨fun _ => rfl, I.v1, I.v2, I.v3, I.v5, I.v6, I.v7, I.v8, I.v11, I.x, I.c6, I.c7, I.sl, I.k10, I.za, I.zb⟩⟩
                  · -- operation 1
                    simp only [Region.binds, listed_bit hL] at hdep
                    refine wpOp_step rfl (fun K' hK => ?_)
                    go_simp
                    exact hK _ _ ⟨_, bit_set hL hsz 1 (by omega), fun jx => if jx = 128 then .agg #[.bool true, .int .i64 23] else s jx, by first | (simp [frR22]; done) | (simp [frR22]; rfl), by simpa using hsz, ⟨I.v0, fun _ => rfl, I.v2, I.v3, I.v5, I.v6, I.v7, I.v8, I.v11, I.x, I.c6, I.c7, I.sl, I.k10, I.za, I.zb⟩⟩
                  · -- operation 2
                    simp only [Region.binds, listed_bit hL] at hdep
                    refine wpOp_step rfl (fun K' hK => ?_)
                    go_simp
                    exact hK _ _ ⟨_, bit_set hL hsz 2 (by omega), fun jx => if jx = 129 then .int .i64 (j : Int) else s jx, by first | (simp [frR22]; done) | (simp [frR22]; rfl), by simpa using hsz, ⟨I.v0, I.v1, fun _ => rfl, I.v3, I.v5, I.v6, I.v7, I.v8, I.v11, I.x, I.c6, I.c7, I.sl, I.k10, I.za, I.zb⟩⟩
                  · -- operation 3
                    simp only [Region.binds, listed_bit hL] at hdep
                    have d2 : L 2 = true := by first | simpa [hL] using hdep | (simp [hL, Region.binds] at hdep; simp [hdep])
                    have e2 := I.v2 d2
                    refine wpOp_step rfl (fun K' hK => ?_)
                    rw [e2]
                    go_simp
                    refine (HN.out _ _).mono ?_
                    rintro e w3 ⟨rfl, x3⟩
                    exact hK _ _ ⟨_, bit_set hL hsz 3 (by omega), fun jx => if jx = 130 then .agg #[.bool false, .int .i64 (j : Int)] else s jx, by first | (simp [frR22, e2]; done) | (simp [frR22, e2]; rfl), by simpa using hsz, ⟨I.v0, I.v1, I.v2, fun _ => rfl, I.v5, I.v6, I.v7, I.v8, I.v11, I.x.trans x3, I.c6, I.c7, fun h1 h2 => by obtain ⟨gs, y1, y2⟩ := I.sl h1 h2; exact ⟨gs, y1, y2.ext x3⟩, I.k10, fun h1 h2 => by obtain ⟨g, y1, y2, y3⟩ := I.za h1 h2; exact ⟨g, y1, y2, y3.ext x3⟩, fun h1 => by obtain ⟨g, y1, y2, y3⟩ := I.zb h1; exact ⟨g, y1, y2, y3.ext x3⟩⟩⟩
                  · -- operation 4
                    simp only [Region.binds, listed_bit hL] at hdep
                    have d3 : L 3 = true := by first | simpa [hL] using hdep | (simp [hL, Region.binds] at hdep; simp [hdep])
                    have e3 := I.v3 d3
                    have n5 : L 5 = L 5 := rfl
                    refine wpOp_step rfl (fun K' hK => ?_)
                    rw [e3]
                    go_simp
                    exact hK _ _ ⟨_, bit_set hL hsz 4 (by omega), fun jx => if jx = 131 then .slice (some ⟨W.heap.size, 0, none⟩) 1 1 else s jx, by first | (simp [frR22, e3]; done) | (simp [frR22, e3]; rfl), by simpa using hsz, ⟨I.v0, I.v1, I.v2, I.v3, I.v5, I.v6, I.v7, I.v8, I.v11, I.x.trans ((Ext.refl _).alloc _), I.c6, I.c7, fun _ _ => ⟨_, rfl, Blk.new _ _ _⟩, I.k10, fun h1 h2 => by obtain ⟨g, y1, y2, y3⟩ := I.za h1 h2; exact ⟨g, y1, y2, y3.ext ((Ext.refl _).alloc _)⟩, fun h1 => by obtain ⟨g, y1, y2, y3⟩ := I.zb h1; exact ⟨g, y1, y2, y3.ext ((Ext.refl _).alloc _)⟩⟩⟩
                  · -- operation 5
                    simp only [Region.binds, listed_bit hL] at hdep
                    have d0 : L 0 = true := by first | simpa [hL] using hdep | (simp [hL, Region.binds] at hdep; simp [hdep])
                    have e0 := I.v0 d0
                    have d1 : L 1 = true := by first | simpa [hL] using hdep | (simp [hL, Region.binds] at hdep; simp [hdep])
                    have e1 := I.v1 d1
                    have d4 : L 4 = true := by first | simpa [hL] using hdep | (simp [hL, Region.binds] at hdep; simp [hdep])
                    obtain ⟨gs, e4, hgs⟩ := I.sl d4 hn0
                    refine wpOp_step rfl (fun K' hK => ?_)
                    rw [e0, e1, e4]
                    go_simp
                    refine (CU.out _ gs hgs).mono ?_
                    rintro e w3 ⟨rfl, x3⟩
                    exact hK _ _ ⟨_, bit_set hL hsz 5 (by omega), fun jx => if jx = 132 then .tuple #[.agg #[.bool uo, .int .i64 un], .bool true] else s jx, by first | (simp [frR22, e0, e1, e4]; done) | (simp [frR22, e0, e1, e4]; rfl), by simpa using hsz, ⟨I.v0, I.v1, I.v2, I.v3, fun _ => rfl, I.v6, I.v7, I.v8, I.v11, I.x.trans x3, fun _ => rfl, I.c7, fun _ h => absurd h (by simp), I.k10, fun h1 h2 => by obtain ⟨g, y1, y2, y3⟩ := I.za h1 h2; exact ⟨g, y1, y2, y3.ext x3⟩, fun h1 => by obtain ⟨g, y1, y2, y3⟩ := I.zb h1; exact ⟨g, y1, y2, y3.ext x3⟩⟩⟩
                  · -- operation 6
                    simp only [Region.binds, listed_bit hL] at hdep
                    have d5 : L 5 = true := by first | simpa [hL] using hdep | (simp [hL, Region.binds] at hdep; simp [hdep])
                    have e5 := I.v5 d5
                    refine wpOp_step rfl (fun K' hK => ?_)
                    rw [e5]
                    go_simp
                    exact hK _ _ ⟨_, bit_set hL hsz 6 (by omega), fun jx => if jx = 126 then .tuple #[.agg #[.bool uo, .int .i64 un], .bool true] else s jx, by first | (simp [frR22, e5]; done) | (simp [frR22, e5]; rfl), by simpa using hsz, ⟨I.v0, I.v1, I.v2, I.v3, I.v5, fun _ => rfl, I.v7, I.v8, I.v11, I.x, fun _ => d5, fun _ => rfl, I.sl, I.k10, I.za, I.zb⟩⟩
                  · -- operation 7
                    simp only [Region.binds, listed_bit hL] at hdep
                    have d6 : L 6 = true := by first | simpa [hL] using hdep | (simp [hL, Region.binds] at hdep; simp [hdep])
                    have e6 := I.v6 d6
                    refine wpOp_step rfl (fun K' hK => ?_)
                    rw [e6]
                    go_simp
                    exact hK _ _ ⟨_, bit_set hL hsz 7 (by omega), fun jx => if jx = 133 then .agg #[.bool uo, .int .i64 un] else s jx, by first | (simp [frR22, e6]; done) | (simp [frR22, e6]; rfl), by simpa using hsz, ⟨I.v0, I.v1, I.v2, I.v3, I.v5, I.v6, fun _ => rfl, I.v8, I.v11, I.x, I.c6, fun _ => d6, I.sl, I.k10, I.za, I.zb⟩⟩
                  · -- operation 8
                    simp only [Region.binds, listed_bit hL] at hdep
                    have d6 : L 6 = true := by first | simpa [hL] using hdep | (simp [hL, Region.binds] at hdep; simp [hdep])
                    have e6 := I.v6 d6
                    refine wpOp_step rfl (fun K' hK => ?_)
                    rw [e6]
                    go_simp
                    exact hK _ _ ⟨_, bit_set hL hsz 8 (by omega), fun jx => if jx = 134 then .bool true else s jx, by first | (simp [frR22, e6]; done) | (simp [frR22, e6]; rfl), by simpa using hsz, ⟨I.v0, I.v1, I.v2, I.v3, I.v5, I.v6, I.v7, fun _ => rfl, I.v11, I.x, I.c6, I.c7, I.sl, I.k10, I.za, I.zb⟩⟩
                  · -- operation 9
                    simp only [Region.binds, listed_bit hL] at hdep
                    have n10 : L 10 = false := by cases hh : L 10 with | false => rfl | true => rw [I.k10 hh] at hn0; cases hn0
                    refine wpOp_step rfl (fun K' hK => ?_)
                    go_simp
                    exact hK _ _ ⟨_, bit_set hL hsz 9 (by omega), fun jx => if jx = 25 then .pointer (some ⟨W.heap.size, 0, none⟩) else s jx, by first | (simp [frR22]; done) | (simp [frR22]; rfl), by simpa using hsz, ⟨I.v0, I.v1, I.v2, I.v3, I.v5, I.v6, I.v7, I.v8, I.v11, I.x.trans ((Ext.refl _).alloc _), I.c6, I.c7, fun h1 h2 => by obtain ⟨gs, y1, y2⟩ := I.sl h1 h2; exact ⟨gs, y1, y2.ext ((Ext.refl _).alloc _)⟩, fun _ => rfl, fun _ _ => ⟨_, rfl, hfz, Blk.new _ _ _⟩, fun h => absurd (show L 10 = true from h) (by rw [n10]; decide)⟩⟩
                  · -- operation 10
                    simp only [Region.binds, listed_bit hL] at hdep
                    have d7 : L 7 = true := by first | simpa [hL] using hdep | (simp [hL, Region.binds] at hdep; simp [hdep])
                    have e7 := I.v7 d7
                    have d9 : L 9 = true := by first | simpa [hL] using hdep | (simp [hL, Region.binds] at hdep; simp [hdep])
                    have d5 := I.c6 (I.c7 d7)
                    obtain ⟨g, e9, hg, hB⟩ := I.za d9 hn0
                    obtain ⟨q1, q2, q3⟩ := hB.rules
                    refine wpOp_step rfl (fun K' hK => ?_)
                    rw [e7, e9]
                    have IX := Lib.hid I
                    have HB := Lib.hid hB
                    clear I hB
                    go_simp
                    exact hK _ _ ⟨_, bit_set hL hsz 10 (by omega), s, by first | (simp [frR22, e7, e9]; done) | (simp [frR22, e7, e9]; rfl), by simpa using hsz, ⟨IX.out.v0, IX.out.v1, IX.out.v2, IX.out.v3, IX.out.v5, IX.out.v6, IX.out.v7, IX.out.v8, IX.out.v11, (IX.out.x.setNew (p := ⟨g, 0, none⟩) hg _).setNew (p := ⟨g, 1, none⟩) hg _, IX.out.c6, IX.out.c7, fun _ h => absurd (show L 5 = false from h) (by rw [d5]; decide), fun _ => d9, fun _ h => absurd h (by simp), fun _ => ⟨g, e9, hg, (HB.out.set 0 _).set 1 _⟩⟩⟩
                  · -- operation 11
                    simp only [Region.binds, listed_bit hL] at hdep
                    have d8 : L 8 = true := by first | simpa [hL] using hdep | (simp [hL, Region.binds] at hdep; simp [hdep])
                    have e8 := I.v8 d8
                    refine wpOp_step rfl (fun K' hK => ?_)
                    rw [e8]
                    go_simp
                    exact hK _ _ ⟨_, bit_set hL hsz 11 (by omega), fun jx => if jx = 26 then .bool true else s jx, by first | (simp [frR22, e8]; done) | (simp [frR22, e8]; rfl), by simpa using hsz, ⟨I.v0, I.v1, I.v2, I.v3, I.v5, I.v6, I.v7, I.v8, fun _ => rfl, I.x, I.c6, I.c7, I.sl, I.k10, I.za, I.zb⟩⟩
                · rintro listed act W2 ⟨L, hL, s, rfl, hsz, I⟩ hr
                  have ALL : ∀ i, i < 12 → L i = true := fun i hi => by rw [← hL i]; exact all_listed_m (by kernel_rfl) hsz hr i hi
                  have eK := I.v11 (ALL 11 (by omega))
                  obtain ⟨gu, eB, hgu, bU⟩ := I.zb (ALL 10 (by omega))
                  have xN := I.x
                  clear I hL ALL hr hsz
                  unfold frR22
                  dsimp only
                  rw [eK, eB, ← HU.out]
                  clear HU eK eB
                  simp only [Array.getD_eq_getD_getElem?, List.getElem?_toArray, List.getElem?_cons_succ, List.getElem?_cons_zero, Option.getD_some]
                  have XR := Lib.hid (XQ.out.trans xN)
                  obtain ⟨e1, e2, e3⟩ := bU.rules
                  clear bU xN CU BR
                  by_cases hjn : (j : Int) = n
                  · have hb : ((j : Int) == n) = true := beq_iff_eq.2 hjn
                    go_wp2_with fail
                    go_roundw
                    case rel => exact ⟨j + 1, by omega, by omega, by go_num, XR.out⟩
                    case measure => simp [intOf]; omega
                  · have hb : ((j : Int) == n) = false := beq_eq_false_iff_ne.2 hjn
                    have hu := hun hjn
                    rw [hu] at e1
                    go_wp2_with fail
                    go_roundw
                    case rel => exact ⟨j + 1, by omega, by omega, by go_num, XR.out⟩
                    case measure => simp [intOf]; omega
              · obtain rfl : j = k + 1 := by omega
                have jI : ¬ (((k + 1 : Nat) : Int)) ≤ (k : Int) := by omega
                obtain ⟨c1, c2, c3⟩ := (BW15.out.ext xr).rules
                have XR := Lib.hid (XW.out.trans xr)
                clear xr BW15 BW MW
                go_wp2_with fail
                refine (AW.out _).mono ?_
                rintro e we ⟨rfl, xx⟩
                go_wp2_with fail
                go_ret
                exact ⟨rfl, (XR.out.trans xx).below⟩
          · have t1 : decide (1 ≤ n) = false := decide_eq_false n1
            clear hno
            go_wp2_with fail
            go_loopw [24] (fun jv wr => ∃ j : Nat, 1 ≤ j ∧ j ≤ k + 1 ∧ jv = .int .i64 j ∧ Ext W1 wr) (fun jv _ => k + 1 - (intOf jv).toNat)
            case atStart => exact ⟨1, by omega, by omega, rfl, Ext.refl _⟩
            case round =>
              clear c1 c2 c3 d1 d2 d3 e1 e2 e3
              obtain ⟨j, j1, jk, rfl, xr⟩ := hrel
              by_cases hle : j ≤ k
              · have jI : (j : Int) ≤ (k : Int) := by omega
                have BR := Lib.hid (BW.out.ext xr)
                have MR := Lib.hid (MW.out.ext xr)
                have XQ := Lib.hid xr
                obtain ⟨uo, un, hun, CU⟩ : ∃ (uo : Bool) (un : Int), (¬ (j : Int) = n → un = 0) ∧ Hid (∀ W [x : IsExt wr W], ∀ gs, Blk W gs 40 #[.bool false, .int .i64 (j : Int)] → Calls Tryz.prog 27 #[.pointer (some ⟨m, 0, none⟩), .int .i64 24, .agg #[.bool true, .int .i64 23], .slice (some ⟨gs, 0, none⟩) 1 1] W fun e w' => e = .returned (.tuple #[.agg #[.bool uo, .int .i64 un], .bool true]) ∧ Ext W w') := by
                  obtain ⟨q, hq⟩ : ∃ q : Nat, (q : Int) + 1 = (j : Int) := ⟨j - 1, by omega⟩
                  refine ⟨(rd q).obj, (rd q).n, fun h => HRP.out.2 q (by omega) (by omega), Lib.hid (fun W ix gs hb => ?_)⟩
                  exact pop24 (MR.out.ext ix.out) 23 (j : Int) PM23 (MAY.out (j : Int) (by omega) _) gs 1 hb _ true _ (fun W' x' => by
                    have r := HRP.out.1.get W' F8 m ((MR.out.ext ix.out).ext x') q (by omega)
                    rw [hq] at r; exact r)
                clear MR xr
                go_upto_region 22 with (fail)
                refine wp_any_act (fun A hA => ?_)
                have eA : A = frR22 m g13 (j : Int) (fun q => A.tmps.getD q undef) (fun q => A.tmps.getD q undef) := by rw [hA]; rfl
                obtain ⟨uu, huu⟩ : ∃ uu, (fun q => A.tmps.getD q undef) = uu := ⟨_, rfl⟩
                rw [huu] at eA
                rw [hA] at huu
                have HU := Lib.hid huu
                clear hA huu
                subst eA
                refine wp_region_inv (Inv := R22Inv wr m g13 (j : Int) uo true un uu) (by kernel_rfl) ?_ ?_ ?_
                · refine ⟨fun _ => false, fun k => ?_, uu, rfl, by simp, ⟨?_, ?_, ?_, ?_, ?_, ?_, ?_, ?_, ?_, ?_, ?_, ?_, ?_, ?_, ?_, ?_⟩⟩
                  · rw [Array.getD_eq_getD_getElem?, Array.getElem?_replicate]; split <;> rfl
                  · intro h; exact absurd h (by decide)
                  · intro h; exact absurd h (by decide)
                  · intro h; exact absurd h (by decide)
                  · intro h; exact absurd h (by decide)
                  · intro h; exact absurd h (by decide)
                  · intro h; exact absurd h (by decide)
                  · intro h; exact absurd h (by decide)
                  · intro h; exact absurd h (by decide)
                  · intro h; exact absurd h (by decide)
                  · exact (Ext.refl _).drew
                  · intro h; exact absurd h (by decide)
                  · intro h; exact absurd h (by decide)
                  · intro h; exact absurd h (by decide)
                  · intro h; exact absurd h (by decide)
                  · intro h; exact absurd h (by decide)
                  · intro h; exact absurd h (by decide)
                · rintro listed act W ii ⟨L, hL, s, rfl, hsz, I⟩ hi
                  obtain ⟨hlt, hnot, hdep⟩ := (ready_iff _ _).1 hi
                  have hiN : ii < 12 := hlt
                  have casesN : ii = 0 ∨ ii = 1 ∨ ii = 2 ∨ ii = 3 ∨ ii = 4 ∨ ii = 5 ∨ ii = 6 ∨ ii = 7 ∨ ii = 8 ∨ ii = 9 ∨ ii = 10 ∨ ii = 11 := by omega
                  have hn0 : L ii = false := by rw [← hL ii]; exact not_bit hnot
                  clear hi hlt hiN hnot
                  have iW : IsExt wr W := ⟨I.x⟩
                  obtain ⟨p1, p2, p3⟩ := (BR.out.ext I.x).rules
                  have hfz := I.x.below.size
                  unfold frR22
                  rcases casesN with rfl | rfl | rfl | rfl | rfl | rfl | rfl | rfl | rfl | rfl | rfl | rfl
                  · -- operation 0
                    simp only [Region.binds, listed_bit hL] at hdep
                    refine wpOp_step rfl (fun K' hK => ?_)
                    go_simp
                    exact hK _ _ ⟨_, bit_set hL hsz 0 (by omega), fun jx => if jx = 127 then .pointer (some ⟨m, 0, none⟩) else s jx, by first | (simp [frR22]; done) | (simp [frR22]; rfl), by simpa using hsz, ⟨fun _ => rfl, I.v1, I.v2, I.v3, I.v5, I.v6, I.v7, I.v8, I.v11, I.x, I.c6, I.c7, I.sl, I.k10, I.za, I.zb⟩⟩
                  · -- operation 1
                    simp only [Region.binds, listed_bit hL] at hdep
                    refine wpOp_step rfl (fun K' hK => ?_)
                    go_simp
                    exact hK _ _ ⟨_, bit_set hL hsz 1 (by omega), fun jx => if jx = 128 then .agg #[.bool true, .int .i64 23] else s jx, by first | (simp [frR22]; done) | (simp [frR22]; rfl), by simpa using hsz, ⟨I.v0, fun _ => rfl, I.v2, I.v3, I.v5, I.v6, I.v7, I.v8, I.v11, I.x, I.c6, I.c7, I.sl, I.k10, I.za, I.zb⟩⟩
                  · -- operation 2
                    simp only [Region.binds, listed_bit hL] at hdep
                    refine wpOp_step rfl (fun K' hK => ?_)
                    go_simp
                    exact hK _ _ ⟨_, bit_set hL hsz 2 (by omega), fun jx => if jx = 129 then .int .i64 (j : Int) else s jx, by first | (simp [frR22]; done) | (simp [frR22]; rfl), by simpa using hsz, ⟨I.v0, I.v1, fun _ => rfl, I.v3, I.v5, I.v6, I.v7, I.v8, I.v11, I.x, I.c6, I.c7, I.sl, I.k10, I.za, I.zb⟩⟩
                  · -- operation 3
                    simp only [Region.binds, listed_bit hL] at hdep
                    have d2 : L 2 = true := by first | simpa [hL] using hdep | (simp [hL, Region.binds] at hdep; simp [hdep])
                    have e2 := I.v2 d2
                    refine wpOp_step rfl (fun K' hK => ?_)
                    rw [e2]
                    go_simp
                    refine (HN.out _ _).mono ?_
                    rintro e w3 ⟨rfl, x3⟩
                    exact hK _ _ ⟨_, bit_set hL hsz 3 (by omega), fun jx => if jx = 130 then .agg #[.bool false, .int .i64 (j : Int)] else s jx, by first | (simp [frR22, e2]; done) | (simp [frR22, e2]; rfl), by simpa using hsz, ⟨I.v0, I.v1, I.v2, fun _ => rfl, I.v5, I.v6, I.v7, I.v8, I.v11, I.x.trans x3, I.c6, I.c7, fun h1 h2 => by obtain ⟨gs, y1, y2⟩ := I.sl h1 h2; exact ⟨gs, y1, y2.ext x3⟩, I.k10, fun h1 h2 => by obtain ⟨g, y1, y2, y3⟩ := I.za h1 h2; exact ⟨g, y1, y2, y3.ext x3⟩, fun h1 => by obtain ⟨g, y1, y2, y3⟩ := I.zb h1; exact ⟨g, y1, y2, y3.ext x3⟩⟩⟩
                  · -- operation 4
                    simp only [Region.binds, listed_bit hL] at hdep
                    have d3 : L 3 = true := by first | simpa [hL] using hdep | (simp [hL, Region.binds] at hdep; simp [hdep])
                    have e3 := I.v3 d3
                    have n5 : L 5 = L 5 := rfl
                    refine wpOp_step rfl (fun K' hK => ?_)
                    rw [e3]
                    go_simp
                    exact hK _ _ ⟨_, bit_set hL hsz 4 (by omega), fun jx => if jx = 131 then .slice (some ⟨W.heap.size, 0, none⟩) 1 1 else s jx, by first | (simp [frR22, e3]; done) | (simp [frR22, e3]; rfl), by simpa using hsz, ⟨I.v0, I.v1, I.v2, I.v3, I.v5, I.v6, I.v7, I.v8, I.v11, I.x.trans ((Ext.refl _).alloc _), I.c6, I.c7, fun _ _ => ⟨_, rfl, Blk.new _ _ _⟩, I.k10, fun h1 h2 => by obtain ⟨g, y1, y2, y3⟩ := I.za h1 h2; exact ⟨g, y1, y2, y3.ext ((Ext.refl _).alloc _)⟩, fun h1 => by obtain ⟨g, y1, y2, y3⟩ := I.zb h1; exact ⟨g, y1, y2, y3.ext ((Ext.refl _).alloc _)⟩⟩⟩
                  · -- operation 5
                    simp only [Region.binds, listed_bit hL] at hdep
                    have d0 : L 0 = true := by first | simpa [hL] using hdep | (simp [hL, Region.binds] at hdep; simp [hdep])
                    have e0 := I.v0 d0
                    have d1 : L 1 = true := by first | simpa [hL] using hdep | (simp [hL, Region.binds] at hdep; simp [hdep])
                    have e1 := I.v1 d1
                    have d4 : L 4 = true := by first | simpa [hL] using hdep | (simp [hL, Region.binds] at hdep; simp [hdep])
                    obtain ⟨gs, e4, hgs⟩ := I.sl d4 hn0
                    refine wpOp_step rfl (fun K' hK => ?_)
                    rw [e0, e1, e4]
                    go_simp
                    refine (CU.out _ gs hgs).mono ?_
                    rintro e w3 ⟨rfl, x3⟩
                    exact hK _ _ ⟨_, bit_set hL hsz 5 (by omega), fun jx => if jx = 132 then .tuple #[.agg #[.bool uo, .int .i64 un], .bool true] else s jx, by first | (simp [frR22, e0, e1, e4]; done) | (simp [frR22, e0, e1, e4]; rfl), by simpa using hsz, ⟨I.v0, I.v1, I.v2, I.v3, fun _ => rfl, I.v6, I.v7, I.v8, I.v11, I.x.trans x3, fun _ => rfl, I.c7, fun _ h => absurd h (by simp), I.k10, fun h1 h2 => by obtain ⟨g, y1, y2, y3⟩ := I.za h1 h2; exact ⟨g, y1, y2, y3.ext x3⟩, fun h1 => by obtain ⟨g, y1, y2, y3⟩ := I.zb h1; exact ⟨g, y1, y2, y3.ext x3⟩⟩⟩
                  · -- operation 6
                    simp only [Region.binds, listed_bit hL] at hdep
                    have d5 : L 5 = true := by first | simpa [hL] using hdep | (simp [hL, Region.binds] at hdep; simp [hdep])
                    have e5 := I.v5 d5
                    refine wpOp_step rfl (fun K' hK => ?_)
                    rw [e5]
                    go_simp
                    exact hK _ _ ⟨_, bit_set hL hsz 6 (by omega), fun jx => if jx = 126 then .tuple #[.agg #[.bool uo, .int .i64 un], .bool true] else s jx, by first | (simp [frR22, e5]; done) | (simp [frR22, e5]; rfl), by simpa using hsz, ⟨I.v0, I.v1, I.v2, I.v3, I.v5, fun _ => rfl, I.v7, I.v8, I.v11, I.x, fun _ => d5, fun _ => rfl, I.sl, I.k10, I.za, I.zb⟩⟩
                  · -- operation 7
                    simp only [Region.binds, listed_bit hL] at hdep
                    have d6 : L 6 = true := by first | simpa [hL] using hdep | (simp [hL, Region.binds] at hdep; simp [hdep])
                    have e6 := I.v6 d6
                    refine wpOp_step rfl (fun K' hK => ?_)
                    rw [e6]
                    go_simp
                    exact hK _ _ ⟨_, bit_set hL hsz 7 (by omega), fun jx => if jx = 133 then .agg #[.bool uo, .int .i64 un] else s jx, by first | (simp [frR22, e6]; done) | (simp [frR22, e6]; rfl), by simpa using hsz, ⟨I.v0, I.v1, I.v2, I.v3, I.v5, I.v6, fun _ => rfl, I.v8, I.v11, I.x, I.c6, fun _ => d6, I.sl, I.k10, I.za, I.zb⟩⟩
                  · -- operation 8
                    simp only [Region.binds, listed_bit hL] at hdep
                    have d6 : L 6 = true := by first | simpa [hL] using hdep | (simp [hL, Region.binds] at hdep; simp [hdep])
                    have e6 := I.v6 d6
                    refine wpOp_step rfl (fun K' hK => ?_)
                    rw [e6]
                    go_simp
                    exact hK _ _ ⟨_, bit_set hL hsz 8 (by omega), fun jx => if jx = 134 then .bool true else s jx, by first | (simp [frR22, e6]; done) | (simp [frR22, e6]; rfl), by simpa using hsz, ⟨I.v0, I.v1, I.v2, I.v3, I.v5, I.v6, I.v7, fun _ => rfl, I.v11, I.x, I.c6, I.c7, I.sl, I.k10, I.za, I.zb⟩⟩
                  · -- operation 9
                    simp only [Region.binds, listed_bit hL] at hdep
                    have n10 : L 10 = false := by cases hh : L 10 with | false => rfl | true => rw [I.k10 hh] at hn0; cases hn0
                    refine wpOp_step rfl (fun K' hK => ?_)
                    go_simp
                    exact hK _ _ ⟨_, bit_set hL hsz 9 (by omega), fun jx => if jx = 25 then .pointer (some ⟨W.heap.size, 0, none⟩) else s jx, by first | (simp [frR22]; done) | (simp [frR22]; rfl), by simpa using hsz, ⟨I.v0, I.v1, I.v2, I.v3, I.v5, I.v6, I.v7, I.v8, I.v11, I.x.trans ((Ext.refl _).alloc _), I.c6, I.c7, fun h1 h2 => by obtain ⟨gs, y1, y2⟩ := I.sl h1 h2; exact ⟨gs, y1, y2.ext ((Ext.refl _).alloc _)⟩, fun _ => rfl, fun _ _ => ⟨_, rfl, hfz, Blk.new _ _ _⟩, fun h => absurd (show L 10 = true from h) (by rw [n10]; decide)⟩⟩
                  · -- operation 10
                    simp only [Region.binds, listed_bit hL] at hdep
                    have d7 : L 7 = true := by first | simpa [hL] using hdep | (simp [hL, Region.binds] at hdep; simp [hdep])
                    have e7 := I.v7 d7
                    have d9 : L 9 = true := by first | simpa [hL] using hdep | (simp [hL, Region.binds] at hdep; simp [hdep])
                    have d5 := I.c6 (I.c7 d7)
                    obtain ⟨g, e9, hg, hB⟩ := I.za d9 hn0
                    obtain ⟨q1, q2, q3⟩ := hB.rules
                    refine wpOp_step rfl (fun K' hK => ?_)
                    rw [e7, e9]
                    have IX := Lib.hid I
                    have HB := Lib.hid hB
                    clear I hB
                    go_simp
                    exact hK _ _ ⟨_, bit_set hL hsz 10 (by omega), s, by first | (simp [frR22, e7, e9]; done) | (simp [frR22, e7, e9]; rfl), by simpa using hsz, ⟨IX.out.v0, IX.out.v1, IX.out.v2, IX.out.v3, IX.out.v5, IX.out.v6, IX.out.v7, IX.out.v8, IX.out.v11, (IX.out.x.setNew (p := ⟨g, 0, none⟩) hg _).setNew (p := ⟨g, 1, none⟩) hg _, IX.out.c6, IX.out.c7, fun _ h => absurd (show L 5 = false from h) (by rw [d5]; decide), fun _ => d9, fun _ h => absurd h (by simp), fun _ => ⟨g, e9, hg, (HB.out.set 0 _).set 1 _⟩⟩⟩
                  · -- operation 11
                    simp only [Region.binds, listed_bit hL] at hdep
                    have d8 : L 8 = true := by first | simpa [hL] using hdep | (simp [hL, Region.binds] at hdep; simp [hdep])
                    have e8 := I.v8 d8
                    refine wpOp_step rfl (fun K' hK => ?_)
                    rw [e8]
                    go_simp
                    exact hK _ _ ⟨_, bit_set hL hsz 11 (by omega), fun jx => if jx = 26 then .bool true else s jx, by first | (simp [frR22, e8]; done) | (simp [frR22, e8]; rfl), by simpa using hsz, ⟨I.v0, I.v1, I.v2, I.v3, I.v5, I.v6, I.v7, I.v8, fun _ => rfl, I.x, I.c6, I.c7, I.sl, I.k10, I.za, I.zb⟩⟩
                · rintro listed act W2 ⟨L, hL, s, rfl, hsz, I⟩ hr
                  have ALL : ∀ i, i < 12 → L i = true := fun i hi => by rw [← hL i]; exact all_listed_m (by kernel_rfl) hsz hr i hi
                  have eK := I.v11 (ALL 11 (by omega))
                  obtain ⟨gu, eB, hgu, bU⟩ := I.zb (ALL 10 (by omega))
                  have xN := I.x
                  clear I hL ALL hr hsz
                  unfold frR22
                  dsimp only
                  rw [eK, eB, ← HU.out]
                  clear HU eK eB
                  simp only [Array.getD_eq_getD_getElem?, List.getElem?_toArray, List.getElem?_cons_succ, List.getElem?_cons_zero, Option.getD_some]
                  have XR := Lib.hid (XQ.out.trans xN)
                  obtain ⟨e1, e2, e3⟩ := bU.rules
                  clear bU xN CU BR
                  by_cases hjn : (j : Int) = n
                  · have hb : ((j : Int) == n) = true := beq_iff_eq.2 hjn
                    go_wp2_with fail
                    go_roundw
                    case rel => exact ⟨j + 1, by omega, by omega, by go_num, XR.out⟩
                    case measure => simp [intOf]; omega
                  · have hb : ((j : Int) == n) = false := beq_eq_false_iff_ne.2 hjn
                    have hu := hun hjn
                    rw [hu] at e1
                    go_wp2_with fail
                    go_roundw
                    case rel => exact ⟨j + 1, by omega, by omega, by go_num, XR.out⟩
                    case measure => simp [intOf]; omega
              · obtain rfl : j = k + 1 := by omega
                have jI : ¬ (((k + 1 : Nat) : Int)) ≤ (k : Int) := by omega
                obtain ⟨c1, c2, c3⟩ := (BW15.out.ext xr).rules
                have XR := Lib.hid (XW.out.trans xr)
                clear xr BW15 BW MW
                go_wp2_with fail
                refine (AW.out _).mono ?_
                rintro e we ⟨rfl, xx⟩
                go_wp2_with fail
                go_ret
                exact ⟨rfl, (XR.out.trans xx).below⟩
end Go.Proofs.YtnhijjcplnomgaaGreat.World
