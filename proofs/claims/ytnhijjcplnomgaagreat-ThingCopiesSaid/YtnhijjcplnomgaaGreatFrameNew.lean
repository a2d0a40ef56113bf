/-
  frame.New, without arguments.
-/
import Derived.Test.YtnhijjcplnomgaaGreatConcat
import Derived.Test.YtnhijjcplnomgaaGreatFramePlain4
import Derived.Test.YtnhijjcplnomgaaGreatImage2
namespace Go.Proofs.YtnhijjcplnomgaaGreat.World
open Go.RowKit Go.Proofs.YtnhijjcplnomgaaGreat.Plain
set_option linter.unusedVariables false
attribute [local go_sem ↓] Go.wp_at_zero Go.wp_at_succ
namespace MS
def setsTo (S : MS) (id : Int) (l : List PV) : Nat → MS
  | 0 => S
  | k + 1 => (S.setsTo id l k).set id k (vAt l k)
theorem setsTo_phase (S : MS) (id : Int) (l : List PV) : ∀ k, (S.setsTo id l k).phase = S.phase
  | 0 => rfl
  | k + 1 => by show ((S.setsTo id l k).set _ _ _).phase = _; rw [set_phase]; exact setsTo_phase S id l k
theorem frameN_to (S : MS) (sender pc temps meth : Int) (self : PV) (block : Int) : S.frameN sender pc temps meth self block = S.frame0.setsTo S.L.length (parts sender pc temps meth self block) 6 := rfl
end MS
section
variable {w w' w2 : World} {F F' F2 : Nat → Prop} {m : Nat} {S S' : MS} {X : MX}
set_option maxRecDepth 100000 in
theorem fnew1 (h : M w F m S) {g : Nat} (hb : Blk w g 45 #[.pointer (some ⟨m, 0, none⟩)]) (v : PV) : Calls Tryz.prog 86 #[val v, .pointer (some ⟨g, 0, none⟩)] w fun e w' => e = .returned (.bool (!S.may v)) ∧ Ext w w' := by
  have C := Lib.hid (fun W [x : IsExt w W] => mmay (h.ext x.out) v)
  obtain ⟨o, n⟩ := v
  unfold val at *
  obtain ⟨q1, q2, q3⟩ := hb.rules
  clear h hb
  go_enter Tryz.func86, Tryz.ntmps86
  go_wp2_with (first | (go_at_call 57; refine (C.out _).mono ?_; rintro e w2 ⟨rfl, x2⟩; obtain ⟨y, rfl⟩ := x2))
  go_ret
  exact ⟨rfl, is_ext _ _⟩
theorem fnone (cap : Value) (w : World) : Calls Tryz.prog 87 #[.slice none 0 0, .func (.func 86) #[] #[cap]] w fun e w' => e = .returned (.bool false) ∧ Ext w w' :=
  containsV (F := []) (row_nil _ _ _) 86 (fun _ _ => by kernel_rfl) cap (fun _ => false) (fun i hi => absurd hi (Nat.not_lt_zero _))
set_option maxRecDepth 100000 in
set_option maxHeartbeats 600000 in
theorem fnew (h : M w F m S) (hp : S.phase ≠ 1) {sender meth block pc temps : Int} {self : PV} (hs : S.has sender = true) (hm : S.has meth = true) (hb : S.has block = true) (hse : S.may self = true) (hpc : fitsB pc = true) (ht : 0 ≤ temps ∧ temps ≤ 8)
    (hmk : S.makeOK 12 0 = true) (hN : S.madeN 12 = 22) (hF : S.madeF 12 = 1) :
    Calls Tryz.prog 41 #[.pointer (some ⟨m, 0, none⟩), .int .i64 sender, .int .i64 meth, val self, .int .i64 block, .int .i64 pc, .int .i64 temps, .slice none 0 0] w fun e w' => e = .returned (.tuple #[.int .i64 S.L.length, .bool true]) ∧
      Goes F m ((S.make 12 0).setsTo S.L.length (MS.parts sender pc temps meth self block) 6) w w' := by
  have HH := Lib.hid h
  have HP := Lib.hid hp
  have t1 := ht.1
  have t2 := ht.2
  obtain ⟨bt, R⟩ := h.rd
  have C0 := Lib.hid R.c0
  have ltm := R.lt
  have hk : ∀ (args : Array Value) (W : World), (callFunc 86 args).run Tryz.prog W = .ok (.enter 86 args) W := fun _ _ => by kernel_rfl
  have hasA := Lib.hid (fun W [x : IsExt w W] i => R.has W i)
  have CF := Lib.hid (fun W => hpc ▸ @fitsE W pc)
  have CM : Hid (∀ W [x : IsExt w W] (g : Nat), Blk W g 45 #[.pointer (some ⟨m, 0, none⟩)] → Calls Tryz.prog 86 #[val self, .pointer (some ⟨g, 0, none⟩)] W fun e w' => e = .returned (.bool false) ∧ Ext W w') := Lib.hid (fun W x g hg => by
    have := fnew1 (h.ext x.out) hg self
    rw [hse] at this; exact this)
  have CN := Lib.hid fnone
  have CS := Lib.hid (fun W k => @tspecial W k (.pointer (some ⟨bt, 0, none⟩)))
  have CD : Hid (∀ W [x : IsExt w W], Calls Tryz.prog 89 #[.pointer (some ⟨m, 0, none⟩), .int .i64 12] W fun e w' => e = .returned (.tuple #[.int .i64 22, .int .i64 1]) ∧ Ext W w') := Lib.hid (fun W x => by
    have := mmade (h.ext x.out) 12
    rw [hN, hF] at this; exact this)
  have FLT := Lib.hid h.lt
  have CK := Lib.hid (fun W [x : IsExt w W] => mmake (h.ext x.out) hp 12 0)
  rw [hmk, show S.makeId 12 0 = S.L.length from by unfold MS.makeId; rw [if_pos hmk]] at CK
  have d1 : decide (temps < 0) = false := decide_eq_false (by omega)
  have d2 : decide (8 < temps) = false := decide_eq_false (by omega)
  have c0 := C0.out
  obtain ⟨so, sn⟩ := self
  clear h hp R ht hse hpc hN hF
  unfold val at *
  go_enter Tryz.func41, Tryz.ntmps41
  go_upto_region 2 with (fail)
  refine wp_name (fun w0 hW => ?_)
  have B1 := Lib.hid (show Blk w0 w.heap.size 45 #[.pointer (some ⟨m, 0, none⟩)] from by rw [hW]; exact (Blk.new _ _ _).alloc _)
  have B2 := Lib.hid (show Blk w0 (w.heap.size + 1) 40 #[.bool so, .int .i64 sn] from by rw [hW]; exact Blk.at_ _ _ (by simp))
  have i0 : IsExt w w0 := ⟨by rw [hW]; exact is_ext _ _⟩
  clear hW c0
  have c0 := (i0.out.below.cell (p := ⟨m, 0, none⟩) ltm).trans C0.out
  obtain ⟨p1, p2, p3⟩ := B1.out.rules
  obtain ⟨s1, s2, s3⟩ := B2.out.rules
  go_wp2_with (first | (go_at_call 181; refine (hasA.out _ _).mono ?_; rintro e w2 ⟨rfl, x2⟩; have i2 : IsExt w w2 := ⟨(is_ext w _).trans x2⟩; have j2 : IsExt w0 w2 := ⟨(is_ext w0 _).trans x2⟩; clear x2; obtain ⟨p1, p2, p3⟩ := (B1.out.ext j2.out).rules; obtain ⟨s1, s2, s3⟩ := (B2.out.ext j2.out).rules; have c0 := (i2.out.below.cell (p := ⟨m, 0, none⟩) ltm).trans C0.out; have l2 := Nat.lt_of_lt_of_le ltm i2.out.below.size) | (go_at_call 86; refine (CM.out _ _ (B1.out.ext (is_ext w0 _))).mono ?_; rintro e w2 ⟨rfl, x2⟩; have i2 : IsExt w w2 := ⟨(is_ext w _).trans x2⟩; have j2 : IsExt w0 w2 := ⟨(is_ext w0 _).trans x2⟩; clear x2; obtain ⟨p1, p2, p3⟩ := (B1.out.ext j2.out).rules; obtain ⟨s1, s2, s3⟩ := (B2.out.ext j2.out).rules; have c0 := (i2.out.below.cell (p := ⟨m, 0, none⟩) ltm).trans C0.out; have l2 := Nat.lt_of_lt_of_le ltm i2.out.below.size) | (go_at_call 87; refine (CN.out _ _).mono ?_; rintro e w2 ⟨rfl, x2⟩; have i2 : IsExt w w2 := ⟨(is_ext w _).trans x2⟩; have j2 : IsExt w0 w2 := ⟨(is_ext w0 _).trans x2⟩; clear x2; obtain ⟨p1, p2, p3⟩ := (B1.out.ext j2.out).rules; obtain ⟨s1, s2, s3⟩ := (B2.out.ext j2.out).rules; have c0 := (i2.out.below.cell (p := ⟨m, 0, none⟩) ltm).trans C0.out; have l2 := Nat.lt_of_lt_of_le ltm i2.out.below.size) | (go_at_call 88; refine (CF.out _).mono ?_; rintro e w2 ⟨rfl, x2⟩; have i2 : IsExt w w2 := ⟨(is_ext w _).trans x2⟩; have j2 : IsExt w0 w2 := ⟨(is_ext w0 _).trans x2⟩; clear x2; obtain ⟨p1, p2, p3⟩ := (B1.out.ext j2.out).rules; obtain ⟨s1, s2, s3⟩ := (B2.out.ext j2.out).rules; have c0 := (i2.out.below.cell (p := ⟨m, 0, none⟩) ltm).trans C0.out; have l2 := Nat.lt_of_lt_of_le ltm i2.out.below.size) | (go_at_call 192; refine (CS.out _ _).mono ?_; rintro e w2 ⟨rfl, x2⟩; have i2 : IsExt w w2 := ⟨(is_ext w _).trans x2⟩; have j2 : IsExt w0 w2 := ⟨(is_ext w0 _).trans x2⟩; clear x2; obtain ⟨p1, p2, p3⟩ := (B1.out.ext j2.out).rules; obtain ⟨s1, s2, s3⟩ := (B2.out.ext j2.out).rules; have c0 := (i2.out.below.cell (p := ⟨m, 0, none⟩) ltm).trans C0.out; have l2 := Nat.lt_of_lt_of_le ltm i2.out.below.size) | (go_at_call 89; refine (CD.out _).mono ?_; rintro e w2 ⟨rfl, x2⟩; have i2 : IsExt w w2 := ⟨(is_ext w _).trans x2⟩; have j2 : IsExt w0 w2 := ⟨(is_ext w0 _).trans x2⟩; clear x2; obtain ⟨p1, p2, p3⟩ := (B1.out.ext j2.out).rules; obtain ⟨s1, s2, s3⟩ := (B2.out.ext j2.out).rules; have c0 := (i2.out.below.cell (p := ⟨m, 0, none⟩) ltm).trans C0.out; have l2 := Nat.lt_of_lt_of_le ltm i2.out.below.size))
  refine (CK.out _).mono ?_
  rintro e w3 ⟨rfl, F3, m3, v3⟩
  have nF1 : ¬ F w.heap.size := fun hf => by have := FLT.out _ hf; omega
  have nF2 : ¬ F (w.heap.size + 1) := fun hf => by have := FLT.out _ hf; omega
  obtain ⟨b1, f1⟩ := v3.blk (B1.out.ext j2.out) nF1
  obtain ⟨b2, f2⟩ := v3.blk (B2.out.ext j2.out) nF2
  have V3 := Lib.hid (v3.after i2.out)
  have M3 := Lib.hid m3
  have lt3 := Lib.hid m3.lt
  have B1' := Lib.hid b1
  have B2' := Lib.hid b2
  have NF1 := Lib.hid f1
  have NF2 := Lib.hid f2
  clear v3 m3 nF1 nF2 f1 f2 p1 p2 p3 s1 s2 s3 c0 l2 B1 B2 CK CF CN CM CS CD hasA
  obtain ⟨p1, p2, p3⟩ := b1.rules
  obtain ⟨s1, s2, s3⟩ := b2.rules
  clear b1 b2
  clear i2 j2 i0
  go_wp2_with fail
  refine calls_name (fun w4 hW => ?_)
  have PA : Hid (Blk w4 w3.heap.size 40 (flat 6 2 (cF (MS.parts sender pc temps meth ⟨so, sn⟩ block))).toArray) := Lib.hid (by rw [hW]; exact (Blk.new _ _ _).alloc _)
  have PB : Hid (Blk w4 (w3.heap.size + 1) 42 #[.slice (some ⟨w3.heap.size, 0, none⟩) 6 6, .slice none 0 0]) := Lib.hid (by rw [hW]; exact Blk.at_ _ _ (by simp))
  have x4 : Ext w3 w4 := by rw [hW]; exact is_ext _ _
  have X4 := Lib.hid x4
  clear hW p1 p2 p3 s1 s2 s3 x4
  refine (concat1 (c := cF (MS.parts sender pc temps meth ⟨so, sn⟩ block)) PB.out (row_flat (n := 6) PA.out (by omega)) (fun i j => by unfold cF cV; split <;> rfl) (by omega) (by omega)).mono ?_
  rintro e w5 ⟨v5, rfl, o5, x5⟩
  have M5 := Lib.hid (M3.out.ext (X4.out.trans x5))
  have PH : Hid ((S.make 12 0).phase ≠ 1) := Lib.hid (by unfold MS.make; split <;> exact HP.out)
  generalize hPP : MS.parts sender pc temps meth ⟨so, sn⟩ block = PP at *
  have B5 := Lib.hid (B1'.out.ext (X4.out.trans x5))
  have V5 := Lib.hid (V3.out.ext (X4.out.trans x5))
  have LT5 : Hid (∀ k, F3 k → k < w4.heap.size) := Lib.hid (fun k hk => Nat.lt_of_lt_of_le (lt3.out k hk) X4.out.below.size)
  have O5 := Lib.hid o5
  have PPH := Lib.hid hPP
  clear o5 x5 hPP PA PB X4 B1' B2' V3 M3 lt3
  generalize hT : S.make 12 0 = T at *
  generalize hid : (S.L.length : Int) = id at *
  generalize w4.heap.size = h4 at *
  obtain ⟨g5, cp5, e5, _, _, _, _, _, _⟩ := O5.out.lt 0 (by omega)
  subst e5
  go_wp2_with fail
  go_loopw [122] (fun iv wr => ∃ k : Nat, k ≤ 6 ∧ iv = .int .i64 k ∧ M wr F3 m (T.setsTo id PP k) ∧ Keep F3 w5 wr) (fun iv _ => 6 - (intOf iv).toNat)
  case atStart => exact ⟨0, by omega, rfl, M5.out, Keep.refl _ _⟩
  case round =>
    obtain ⟨k, hk6, rfl, mk, kk⟩ := hrel
    by_cases hlt : k < 6
    · have iI : (k : Int) < 6 := by omega
      have RW : Own wr h4 40 (.slice (some ⟨g5, 0, none⟩) 6 cp5) 6 2 (cF PP) := O5.out.far kk (fun j hj hF => by have := (O5.out.block hj).1; have := LT5.out j hF; omega)
      obtain ⟨g, cap, eg, _, _, hg, hc, _, _⟩ := RW.lt k hlt
      injection eg with eg1 eg2 eg3
      injection eg1 with eg1
      injection eg1 with eg1
      subst eg1 eg3
      have c0 : wr.cell? ⟨g5, k * 2, none⟩ = some (.bool (vAt PP k).obj) := hc 0 (by omega)
      have c1 : wr.cell? ⟨g5, k * 2 + 1, none⟩ = some (.int .i64 (vAt PP k).n) := hc 1 (by omega)
      obtain ⟨p1, p2, p3⟩ := (B5.out.keep kk NF1.out).rules
      have C := Lib.hid (fun W [x : IsExt wr W] => mset (mk.ext x.out) (by rw [MS.setsTo_phase]; exact PH.out) id k (vAt PP k))
      have KK := Lib.hid kk
      clear mk kk hc RW
      obtain ⟨u, hu⟩ : ∃ u, u = vAt PP k := ⟨_, rfl⟩
      rw [← hu] at c0 c1 C
      have HU := Lib.hid hu
      clear hu
      obtain ⟨uo, un⟩ := u
      unfold val at C
      simp only at c0 c1
      go_wp2_with fail
      refine (C.out _).mono ?_
      rintro e w6 ⟨rfl, m6, k6⟩
      have M6 : Hid (M w6 F3 m (T.setsTo id PP (k + 1))) := Lib.hid (by show M w6 F3 m ((T.setsTo id PP k).set id k (vAt PP k)); rw [← HU.out]; exact m6)
      have K6 := Lib.hid (KK.out.trans ((Keep.of_ext (is_ext wr _) F3).trans k6))
      clear m6 k6 C c0 c1 p1 p2 p3
      go_wp2_with fail
      go_roundw
      case rel => exact ⟨k + 1, by omega, by go_num, M6.out, K6.out⟩
      case measure => simp [intOf]; omega
    · obtain rfl : k = 6 := by omega
      have MK := Lib.hid mk
      have KK := Lib.hid kk
      clear mk kk
      go_wp2_with fail
      go_ret2
      have hPP := PPH.out
      subst hT hid hPP
      exact ⟨rfl, F3, MK.out, V5.out.trans ⟨KK.out, fun k h => .inl h⟩⟩
end
end Go.Proofs.YtnhijjcplnomgaaGreat.World
