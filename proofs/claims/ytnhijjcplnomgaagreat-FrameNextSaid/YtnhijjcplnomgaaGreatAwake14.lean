/-
  colloquylaw14.awake: a frame without temps.
-/
import Derived.Test.YtnhijjcplnomgaaGreatSetup
namespace Go.Proofs.YtnhijjcplnomgaaGreat.World
open Go.RowKit Go.Proofs.YtnhijjcplnomgaaGreat.Plain
set_option linter.unusedVariables false
attribute [local go_sem ↓] Go.wp_at_zero Go.wp_at_succ
namespace MS
theorem NewFr.meth {S S' : MS} {id : Int} {f : Nat → PV} (h : S.Std) (N : NewFr S S' id f) {k : Int} (hid : id = S.L.length) (hm : S.isMethod k = true) : S'.isMethod k = true := by
  have hk := has_lt (isMethod_has hm)
  have e : ∀ q, S'.get k q = S.frame0.get k q := fun q => (N.old k q (by omega)).trans (get_add h.wf (by omega) q).symm
  rw [N.sim.isMethod e]
  exact isMethod_add h.wf hm
end MS
/-- what a law's beginning makes: the first world and a method; its world turned -/
def W14 (t : Int) : PW := firstW.meth 0 t 0
theorem w14_check (t : Int) (ht : t = 0 ∨ t = 4) : checkB (W14 t) = true := by
  rcases ht with rfl | rfl <;> decide +kernel
theorem w14_len (t : Int) : (W14 t).L.length = 25 := by
  unfold W14 PW.meth; rw [len_add, len_add]; rfl
theorem w14_at (t : Int) (i : Nat) (hi : i < 23) : tAt (W14 t).L i = firstT i := by
  unfold W14 PW.meth
  have e : firstW.L.length = 23 := rfl
  rw [tAt_add _ _ _ _ _ _ (by rw [len_add]; omega), tAt_add _ _ _ _ _ _ (by omega)]
  exact first_at i hi
structure S14 (S : MS) : Prop where
  std : S.Std
  last : S.last = 25
  len : S.L.length = 25
  meth : S.isMethod 24 = true
theorem s14 (t : Int) (ht : t = 0 ∨ t = 4) : S14 (newS (W14 t) 5) := by
  refine ⟨std_new (w14_check t ht) (w14_at t) 5, rfl, w14_len t, ?_⟩
  rcases ht with rfl | rfl <;> decide +kernel
section
variable {w w' w2 : World} {F F' F2 : Nat → Prop} {m : Nat} {S S' : MS} {X : MX}
/-- frame.New in such a world -/
theorem fnew14 (h : M w F m S) (hs : S.Std) (hl : S.last < 3000) {sender meth block pc temps : Int} {self : PV} (h1 : S.has sender = true) (hm : S.isMethod meth = true) (hb : S.has block = true) (hse : S.may self = true) (hpc : 0 ≤ pc ∧ pc ≤ 5000) (ht : 0 ≤ temps ∧ temps ≤ 8) :
    Calls Tryz.prog 41 #[.pointer (some ⟨m, 0, none⟩), .int .i64 sender, .int .i64 meth, val self, .int .i64 block, .int .i64 pc, .int .i64 temps, .slice none 0 0] w fun e w' => e = .returned (.tuple #[.int .i64 S.L.length, .bool true]) ∧
      Goes F m (S.frameN sender pc temps meth self block) w w' := by
  obtain ⟨f1, f2, f3, f4⟩ := hs.frame0 hl
  obtain ⟨c1, c2, c3⟩ := hs.cls 12 (by omega) (by omega)
  have c2 : S.madeN 12 = 22 := c2
  have c3 : S.madeF 12 = 1 := c3
  have q := fnew h (by rw [hs.ph]; decide) h1 (MS.isMethod_has hm) hb hse (MS.fits_small (n := pc) (by omega)) ht f1 c2 c3
  rw [f2] at q
  exact q
set_option maxRecDepth 100000 in
set_option maxHeartbeats 1000000 in
theorem awake14 (w : World) : Calls Tryz.prog 21 #[] w fun e w' => e = .returned (.bool true) ∧ Ext w w' := by
  have HF := Lib.hid (@first_ w)
  go_enter Tryz.func21, Tryz.ntmps21
  go_wp2_with fail
  refine HF.out.mono ?_
  clear HF
  rintro e w1 ⟨x, rfl, b1, x1⟩
  obtain ⟨vL, fs, vD, vRe, vWa, vDu, vSn⟩ := x
  obtain ⟨y1, y2, y3, y4, y5⟩ := b1.bare
  simp only at y1 y2 y3 y4 y5
  subst y1 y2 y3 y4 y5
  obtain ⟨A, cp, hA⟩ := b1.L.form
  have hA : vL = .slice A 23 cp := hA
  subst hA
  unfold cellsW firstW regs0
  go_wp2_with fail
  refine calls_name (fun w2 hW => ?_)
  have xb : Ext w1 w2 := by rw [hW]; exact is_ext _ _
  have B2 : BAt w2 w.heap.size w1.heap.size firstW ⟨.slice A 23 cp, fs, .slice none 0 0, .slice none 0 0, .slice none 0 0, .slice none 0 0, .slice none 0 0⟩ := ⟨by rw [hW]; exact Blk.new _ _ _, b1.ext xb⟩
  have X2 := Lib.hid (x1.trans xb)
  have BH := Lib.hid B2
  have s1 := x1.below.size
  clear hW B2 b1 x1 xb
  generalize hb : w1.heap.size = b at *
  have CM := bmeth BH.out X2.out.below.size 0 0 0 (by decide) (by decide)
  rw [show ((firstW.L.length + 1 : Nat) : Int) = 24 from rfl] at CM
  refine CM.mono ?_
  clear CM
  rintro e w3 ⟨rfl, ⟨x3, h3⟩, k3⟩
  have X3 : Hid (Ext w w3) := Lib.hid (Ext.of_below (Keep.below X2.out.below k3 X2.out.below.size (fun i hi h => by omega)))
  have H3 := Lib.hid h3
  obtain ⟨p1, p2, p3⟩ := h3.blk.rules
  have CN := Lib.hid (objnew (W := W14 0) (h3.bu.at_ (nums_of_check (w14_check 0 (.inl rfl)))) (w14_check 0 (.inl rfl)) rfl 5)
  unfold cellsW at p1
  unfold cellsW at CN
  unfold W14 at CN
  clear h3 k3 BH X2
  generalize hW0 : firstW.meth 0 0 0 = W0 at *
  go_wp2_with fail
  refine CN.out.mono ?_
  rintro e w4 ⟨m, F, rfl, m4, hF, x4⟩
  have X4 := Lib.hid (X3.out.trans x4)
  obtain ⟨S, hS⟩ : ∃ S, S = newS (firstW.meth 0 0 0) 5 := ⟨_, rfl⟩
  have HS : S14 S := by rw [hS]; exact s14 0 (.inl rfl)
  rw [← hW0, ← hS] at m4
  have FL : Hid (∀ k, F k → w.heap.size ≤ k) := Lib.hid (fun k hk => by have := hF k hk; have := X3.out.below.size; omega)
  have st := HS.std
  have hl := HS.last
  have hlen := HS.len
  have hme := HS.meth
  have CW := Lib.hid (fnew14 m4 st (by omega) (sender := 0) (meth := 24) (block := 0) (self := num 5) (pc := 0) (temps := 0) st.has0 hme st.has0 (MS.fits_small (n := 5) (by omega)) (by omega) (by omega))
  rw [hlen] at CW
  have N := st.newFr (by omega) (sender := 0) (pc := 0) (temps := 0) (meth := 24) (block := 0) (self := num 5) st.has0 (.inl rfl) (by omega) (by omega) hme (MS.fits_small (n := 5) (by omega)) (.inl rfl)
  have hm1 := N.meth st rfl hme
  rw [hlen] at N
  have h25 : ((25 : Nat) : Int) = 25 := rfl
  rw [h25] at N CW
  generalize S.frameN 0 0 0 24 (num 5) 0 = S1 at *
  have hf1 := N.fr.is
  have hsp : S1.sp 25 = 0 := congrArg PV.n (N.own.get 2 (by omega))
  have hp1 : S1.phase = 0 := N.own.std.ph
  obtain ⟨hpu, _⟩ := N.fr.push (v := num 7) (by rw [hsp]; omega) (MS.fits_small (n := 7) (by omega))
  clear hF m4 x4 HS st hl hlen hme N h25 hS CN p1 p2 p3 H3
  unfold val num at CW
  go_wp2_with fail
  refine CW.out.mono ?_
  rintro e w5 ⟨rfl, F1, m5, v5⟩
  have FL1 : Hid (∀ k, F1 k → w.heap.size ≤ k) := Lib.hid (fun k hk => by
    rcases v5.new k hk with h | h
    · exact FL.out k h
    · have := X4.out.below.size; omega)
  have X5 : Hid (Ext w w5) := Lib.hid (Ext.of_below (Keep.below X4.out.below v5.keep X4.out.below.size (fun i hi h => by have := FL.out i h; omega)))
  have CP := Lib.hid (fpop_no m5 hf1 hsp)
  have M5 := Lib.hid m5
  clear m5 v5 CW FL X4
  unfold val dV at CP
  go_wp2_with fail
  refine CP.out.mono ?_
  rintro e w6 ⟨rfl, x6⟩
  have i6 : IsExt w5 w6 := ⟨x6⟩
  clear x6 CP
  have CI := Lib.hid (fun W [x : IsExt w5 W] => hf1 ▸ fis (M5.out.ext x.out) 25)
  have CM := Lib.hid (fun W [x : IsExt w5 W] => hm1 ▸ fmethod (M5.out.ext x.out) 24)
  have CPU := Lib.hid (fun W [x : IsExt w5 W] => hpu ▸ fpush (M5.out.ext x.out) (by rw [hp1]; decide) 25 (num 7))
  unfold val num at CPU
  go_wp2_with (first | (go_at_call 39; refine (CI.out _).mono ?_; rintro e w7 ⟨rfl, x7⟩; have i7 : IsExt w5 w7 := ⟨(is_ext w5 _).trans x7⟩; clear x7) | (go_at_call 43; refine (CM.out _).mono ?_; rintro e w8 ⟨rfl, x8⟩; have i8 : IsExt w5 w8 := ⟨(is_ext w5 _).trans x8⟩; clear x8))
  refine (CPU.out _).mono ?_
  rintro e w9 ⟨rfl, m9, k9⟩
  have X9 : Hid (Ext w w9) := Lib.hid (Ext.of_below (Keep.below (X5.out.trans (is_ext w5 _)).below k9 (X5.out.trans (is_ext w5 _)).below.size (fun i hi h => by have := FL1.out i h; omega)))
  clear m9 k9 CPU CI CM
  go_wp2_with fail
  go_ret
  exact ⟨rfl, X9.out⟩
end
end Go.Proofs.YtnhijjcplnomgaaGreat.World
