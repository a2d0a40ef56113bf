/-
  Reach7, Reach8, Reach9, as one text (a claim has at most 60 files).
-/
import Derived.Test.YtadhkmplhgcgkaaMc16
import Derived.Test.YtadhkmplhgcgkaaMc06
import Derived.Laws.EntriesVeiled
import Derived.Deep.RegionHeld3
namespace Go.Proofs.Ytadhkmplhgcgkaa.World
open Go.RowKit Go.Proofs.Ytadhkmplhgcgkaa.Plain
set_option linter.unusedVariables false
attribute [local go_sem ↓] Go.wp_at_zero Go.wp_at_succ
/-- what a walk answers -/
structure WalkP (w0 : World) (W : PW) (weak : Bool) (v : Value) (w' : World) : Prop where
  no : checkB W = false → v = .slice none 0 0
  yes : checkB W = true → ∃ l g, v = .slice (some ⟨g, 0, none⟩) W.L.length W.L.length ∧ RchL W.L.length (nxW W weak) (rootsOf W.R) l ∧ Blk w' g 4 (l.map Value.bool).toArray ∧ w0.heap.size ≤ g
theorem WalkP.base {w0 w1 w' : World} {W : PW} {weak : Bool} {v : Value} (h : WalkP w1 W weak v w') (x : w0.heap.size ≤ w1.heap.size) : WalkP w0 W weak v w' := ⟨h.no, fun hc => by obtain ⟨l, g, a, b, c, d⟩ := h.yes hc; exact ⟨l, g, a, b, c, by omega⟩⟩
theorem WalkP.ext {w0 w' w2 : World} {W : PW} {weak : Bool} {v : Value} (h : WalkP w0 W weak v w') (x : Ext w' w2) : WalkP w0 W weak v w2 := ⟨h.no, fun hc => by obtain ⟨l, g, a, b, c, d⟩ := h.yes hc; exact ⟨l, g, a, b, c.ext x, d⟩⟩
set_option maxRecDepth 100000 in
set_option maxHeartbeats 1000000 in
theorem strong_ {w : World} {x : WV} {W : PW} (h : WorldAt w x W) : Calls Try.prog 12 #[.agg (cellsW W x)] w fun e w' => ∃ v, e = .returned v ∧ WalkP w W false v w' ∧ Ext w w' := by
  have C := Lib.hid (fun W2 (e : Ext w W2) => walk_ (h.ext e) false)
  obtain ⟨vL, fs, vD, vRe, vWa, vDu, vSn⟩ := x
  clear h
  unfold cellsW at *
  go_enter Try.func12, Try.ntmps12
  have XX := Lib.hid ((Ext.refl w).alloc (.cells #[vL, vD, .int .i64 W.last, .int .i64 W.R.proc, .int .i64 W.R.frame, vRe, vWa, vDu, .string W.R.out, .string W.R.inp, .int .i64 W.R.how, .int .i64 W.R.exit, vSn] 31))
  go_wp2_with fail
  refine (C.out _ XX.out).mono ?_
  rintro e w2 ⟨v, rfl, a1, a2, x2⟩
  have P := Lib.hid (show WalkP w W false v w2 ∧ Ext w w2 from ⟨WalkP.base ⟨a1, a2⟩ XX.out.below.size, XX.out.trans x2⟩)
  clear a1 a2 x2 C XX
  go_wp2_with fail
  go_ret
  exact ⟨v, rfl, P.out⟩
set_option maxRecDepth 100000 in
set_option maxHeartbeats 1000000 in
theorem all_ {w : World} {x : WV} {W : PW} (h : WorldAt w x W) : Calls Try.prog 13 #[.agg (cellsW W x)] w fun e w' => ∃ v, e = .returned v ∧ WalkP w W true v w' ∧ Ext w w' := by
  have C := Lib.hid (fun W2 (e : Ext w W2) => walk_ (h.ext e) true)
  obtain ⟨vL, fs, vD, vRe, vWa, vDu, vSn⟩ := x
  clear h
  unfold cellsW at *
  go_enter Try.func13, Try.ntmps13
  have XX := Lib.hid ((Ext.refl w).alloc (.cells #[vL, vD, .int .i64 W.last, .int .i64 W.R.proc, .int .i64 W.R.frame, vRe, vWa, vDu, .string W.R.out, .string W.R.inp, .int .i64 W.R.how, .int .i64 W.R.exit, vSn] 31))
  go_wp2_with fail
  refine (C.out _ XX.out).mono ?_
  rintro e w2 ⟨v, rfl, a1, a2, x2⟩
  have P := Lib.hid (show WalkP w W true v w2 ∧ Ext w w2 from ⟨WalkP.base ⟨a1, a2⟩ XX.out.below.size, XX.out.trans x2⟩)
  clear a1 a2 x2 C XX
  go_wp2_with fail
  go_ret
  exact ⟨v, rfl, P.out⟩
end Go.Proofs.Ytadhkmplhgcgkaa.World
namespace Go.Proofs.Ytadhkmplhgcgkaa.World
open Go.RowKit Go.Proofs.Ytadhkmplhgcgkaa.Plain
set_option linter.unusedVariables false
attribute [local go_sem ↓] Go.wp_at_zero Go.wp_at_succ
set_option maxRecDepth 100000 in
set_option maxHeartbeats 1000000 in
theorem canon1 {w : World} {g4 gA N : Nat} {at_ : List Int} (b4 : Blk w g4 22 #[.slice (some ⟨gA, 0, none⟩) N N]) (bA : Blk w gA 3 (at_.map (Value.int .i64)).toArray) (hl : at_.length = N) (hN : N ≤ 100000) (y : Nat) (hy : y < N) :
    Calls Try.prog 35 #[.int .i64 y, .pointer (some ⟨g4, 0, none⟩)] w fun e w' => e = .returned (.int .i64 (at_.getD y 0)) ∧ Ext w w' := by
  obtain ⟨p1, p2, p3⟩ := b4.rules
  have c1 : w.cell? ⟨gA, y, none⟩ = some (.int .i64 (at_.getD y 0)) := by
    rw [bA.cell]
    simp [List.getD_eq_getElem?_getD, hl, hy]
  have hA := bA.lt
  have yI : (y : Int) < (N : Int) := by omega
  generalize at_.getD y 0 = z at *
  clear b4 bA
  go_enter Try.func35, Try.ntmps35
  go_wp2_with fail
  go_ret
  exact ⟨ret_int (by simp), Ext.refl _⟩
theorem wp_any_act {P : Program} {c : Code} {Q : Exit → Act → World → Prop} {a : Act} {w : World} (h : ∀ A, A = a → c.wp P Q A w) : c.wp P Q a w := h a rfl
structure T1I (wz : World) (b o g3 g4 : Nat) (T : TypeId) (cs : Array Value) (x y : Int) (L : Nat → Bool) (s : Nat → Value) (W : World) : Prop where
  v0 : L 0 = true → s 7 = .pointer (some ⟨b, o, none⟩)
  v1 : L 1 = true → s 8 = .func (.func 35) #[] #[.pointer (some ⟨g4, 0, none⟩)]
  v2 : L 2 = true → s 9 = .pointer (some ⟨b, o, none⟩)
  v3 : L 3 = true → s 10 = .pointer (some ⟨b, o, none⟩)
  v4 : L 4 = true → s 11 = .int .i64 x
  v5 : L 5 = true → s 12 = .int .i64 y
  v6 : L 6 = true → s 13 = .pointer (some ⟨b, o, none⟩)
  c5 : L 5 = true → L 4 = true
  c51 : L 5 = true → L 1 = true
  c7 : L 7 = true → L 5 = true
  za : L 7 = false → Ext wz W
  zb : L 7 = true → Blk W b T (cs.setIfInBounds o (.int .i64 y)) ∧ Keep (· = b) wz W
def frT1 (b o g3 : Nat) (u s : Nat → Value) : Act := { tmps := #[.pointer (some ⟨b, o, none⟩), .pointer (some ⟨g3, 0, none⟩), u 2, u 3, u 4, u 5, u 6, s 7, s 8, s 9, s 10, s 11, s 12, s 13], defers := [] }
def T1Inv (wz : World) (b o g3 g4 : Nat) (T : TypeId) (cs : Array Value) (x y : Int) (u : Nat → Value) (listed : Array Bool) (act : Act) (W : World) : Prop :=
  ∃ L : Nat → Bool, (∀ k, listed.getD k false = L k) ∧ ∃ s : Nat → Value, act = frT1 b o g3 u s ∧ listed.size = 8 ∧ T1I wz b o g3 g4 T cs x y L s W
def toldN (f : Int → Int) (x : Int) : Int := if x = 0 then 0 else f x
set_option maxRecDepth 100000 in
set_option maxHeartbeats 1000000 in
theorem told1 {w : World} {b o g3 g4 : Nat} {T : TypeId} {cs : Array Value} {x : Int} (hb : Blk w b T cs) (ho : cs[o]? = some (.int .i64 x)) (h3 : Blk w g3 68 #[.func (.func 35) #[] #[.pointer (some ⟨g4, 0, none⟩)]]) (f : Int → Int)
    (hf : x ≠ 0 → ∀ W, Ext w W → Calls Try.prog 35 #[.int .i64 x, .pointer (some ⟨g4, 0, none⟩)] W fun e w' => e = .returned (.int .i64 (f x)) ∧ Ext W w') :
    Calls Try.prog 78 #[.pointer (some ⟨b, o, none⟩), .pointer (some ⟨g3, 0, none⟩)] w fun e w' => e = .returned (.tuple #[]) ∧ Blk w' b T (cs.setIfInBounds o (.int .i64 (toldN f x))) ∧ Keep (· = b) w w' := by
  have HF := Lib.hid hf
  have HB := Lib.hid hb
  have H3 := Lib.hid h3
  have HO := Lib.hid ho
  have cb : w.cell? ⟨b, o, none⟩ = some (.int .i64 x) := by rw [hb.cell]; exact ho
  have fb : w.frozen? ⟨b, o, none⟩ = false := hb.frozen o
  have lb := hb.lt
  obtain ⟨p1, p2, p3⟩ := h3.rules
  have c3 := p1 0
  simp only [List.getElem?_toArray, List.getElem?_cons_zero] at c3
  have hk : ∀ (args : Array Value) (W : World), (callFunc 35 args).run Try.prog W = .ok (.enter 35 args) W := fun _ _ => by kernel_rfl
  clear hf hb h3 ho p1
  go_enter Try.func78, Try.ntmps78
  by_cases hx : x = 0
  · subst hx
    go_wp2
    go_end0
    refine ⟨rfl, ?_, Keep.refl _ _⟩
    have e : cs.setIfInBounds o (.int .i64 (toldN f 0)) = cs := by
      apply Array.ext
      · simp
      · intro i h1 h2
        rw [Array.getElem_setIfInBounds]
        by_cases e : o = i
        · subst e
          rw [if_pos rfl]
          have q := HO.out
          rw [Array.getElem?_eq_getElem h2] at q
          injection q with q
          rw [q]; unfold toldN; rw [if_pos rfl]
        · rw [if_neg e]
    rw [e]; exact HB.out
  · have hx' : (x != 0) = true := by simp [hx]
    have hx2 : (x == 0) = false := beq_eq_false_iff_ne.2 hx
    have CF := Lib.hid (HF.out hx)
    have ET : Hid (toldN f x = f x) := Lib.hid (by unfold toldN; rw [if_neg hx])
    clear HF
    generalize f x = y at *
    go_upto_region 1 with (fail)
    refine wp_any_act (fun A hA => ?_)
    have eA : A = frT1 b o g3 (fun q => A.tmps.getD q undef) (fun q => A.tmps.getD q undef) := by rw [hA]; rfl
    clear hA
    generalize (fun q => A.tmps.getD q undef) = uu at eA
    subst eA
    refine wp_region_inv (Inv := T1Inv w b o g3 g4 T cs x y uu) (by kernel_rfl) ?_ ?_ ?_
    · refine ⟨fun _ => false, fun k => ?_, uu, rfl, by simp, ⟨?_, ?_, ?_, ?_, ?_, ?_, ?_, ?_, ?_, ?_, ?_, ?_⟩⟩
      · rw [Array.getD_eq_getD_getElem?, Array.getElem?_replicate]; split <;> rfl
      · intro h; exact absurd h (by decide)
      · intro h; exact absurd h (by decide)
      · intro h; exact absurd h (by decide)
      · intro h; exact absurd h (by decide)
      · intro h; exact absurd h (by decide)
      · intro h; exact absurd h (by decide)
      · intro h; exact absurd h (by decide)
      · intro h; exact absurd h (by decide)
      · intro h; exact absurd h (by decide)
      · intro h; exact absurd h (by decide)
      · exact fun _ => (Ext.refl _).drew
      · intro h; exact absurd h (by decide)
    · rintro listed act W ii ⟨L, hL, s, rfl, hsz, I⟩ hi
      obtain ⟨hlt, hnot, hdep⟩ := (ready_iff _ _).1 hi
      have hiN : ii < 8 := hlt
      have casesN : ii = 0 ∨ ii = 1 ∨ ii = 2 ∨ ii = 3 ∨ ii = 4 ∨ ii = 5 ∨ ii = 6 ∨ ii = 7 := by omega
      have hn0 : L ii = false := by rw [← hL ii]; exact not_bit hnot
      clear hi hlt hiN hnot
      unfold frT1
      rcases casesN with rfl | rfl | rfl | rfl | rfl | rfl | rfl | rfl
      · -- operation 0
        simp only [Region.binds, listed_bit hL] at hdep
        refine wpOp_step rfl (fun K' hK => ?_)
        go_simp
        exact hK _ _ ⟨_, bit_set hL hsz 0 (by omega), fun jx => if jx = 7 then .pointer (some ⟨b, o, none⟩) else s jx, by first | (simp [frT1]; done) | (simp [frT1]; rfl), by simpa using hsz, ⟨fun _ => rfl, I.v1, I.v2, I.v3, I.v4, I.v5, I.v6, I.c5, I.c51, I.c7, I.za, I.zb⟩⟩
      · -- operation 1
        simp only [Region.binds, listed_bit hL] at hdep
        have n7 : L 7 = false := by cases hh : L 7 with | false => rfl | true => exact (by rw [I.c51 (I.c7 hh)] at hn0; cases hn0)
        have xW := I.za n7
        have cbW := (xW.below.cell (p := ⟨b, o, none⟩) lb).trans cb
        have fbW := (xW.below.frozen (p := ⟨b, o, none⟩) lb).trans fb
        have lbW : b < W.heap.size := Nat.lt_of_lt_of_le lb xW.below.size
        have c3W := (xW.below.cell (p := ⟨g3, 0, none⟩) p3).trans c3
        refine wpOp_step rfl (fun K' hK => ?_)
        go_simp
        exact hK _ _ ⟨_, bit_set hL hsz 1 (by omega), fun jx => if jx = 8 then .func (.func 35) #[] #[.pointer (some ⟨g4, 0, none⟩)] else s jx, by first | (simp [frT1]; done) | (simp [frT1]; rfl), by simpa using hsz, ⟨I.v0, fun _ => rfl, I.v2, I.v3, I.v4, I.v5, I.v6, I.c5, fun _ => rfl, I.c7, I.za, I.zb⟩⟩
      · -- operation 2
        simp only [Region.binds, listed_bit hL] at hdep
        refine wpOp_step rfl (fun K' hK => ?_)
        go_simp
        exact hK _ _ ⟨_, bit_set hL hsz 2 (by omega), fun jx => if jx = 9 then .pointer (some ⟨b, o, none⟩) else s jx, by first | (simp [frT1]; done) | (simp [frT1]; rfl), by simpa using hsz, ⟨I.v0, I.v1, fun _ => rfl, I.v3, I.v4, I.v5, I.v6, I.c5, I.c51, I.c7, I.za, I.zb⟩⟩
      · -- operation 3
        simp only [Region.binds, listed_bit hL] at hdep
        have d2 : L 2 = true := by first | simpa [hL] using hdep | (simp [hL, Region.binds] at hdep; simp [hdep])
        have e2 := I.v2 d2
        refine wpOp_step rfl (fun K' hK => ?_)
        rw [e2]
        go_simp
        exact hK _ _ ⟨_, bit_set hL hsz 3 (by omega), fun jx => if jx = 10 then .pointer (some ⟨b, o, none⟩) else s jx, by first | (simp [frT1, e2]; done) | (simp [frT1, e2]; rfl), by simpa using hsz, ⟨I.v0, I.v1, I.v2, fun _ => rfl, I.v4, I.v5, I.v6, I.c5, I.c51, I.c7, I.za, I.zb⟩⟩
      · -- operation 4
        simp only [Region.binds, listed_bit hL] at hdep
        have d3 : L 3 = true := by first | simpa [hL] using hdep | (simp [hL, Region.binds] at hdep; simp [hdep])
        have e3 := I.v3 d3
        have n7 : L 7 = false := by cases hh : L 7 with | false => rfl | true => exact (by rw [I.c5 (I.c7 hh)] at hn0; cases hn0)
        have xW := I.za n7
        have cbW := (xW.below.cell (p := ⟨b, o, none⟩) lb).trans cb
        have fbW := (xW.below.frozen (p := ⟨b, o, none⟩) lb).trans fb
        have lbW : b < W.heap.size := Nat.lt_of_lt_of_le lb xW.below.size
        have c3W := (xW.below.cell (p := ⟨g3, 0, none⟩) p3).trans c3
        refine wpOp_step rfl (fun K' hK => ?_)
        rw [e3]
        go_simp
        exact hK _ _ ⟨_, bit_set hL hsz 4 (by omega), fun jx => if jx = 11 then .int .i64 x else s jx, by first | (simp [frT1, e3]; done) | (simp [frT1, e3]; rfl), by simpa using hsz, ⟨I.v0, I.v1, I.v2, I.v3, fun _ => rfl, I.v5, I.v6, fun _ => rfl, I.c51, I.c7, I.za, I.zb⟩⟩
      · -- operation 5
        simp only [Region.binds, listed_bit hL] at hdep
        have d1 : L 1 = true := by first | simpa [hL] using hdep | (simp at hdep; simp [hdep])
        have e1 := I.v1 d1
        have d4 : L 4 = true := by first | simpa [hL] using hdep | (simp at hdep; simp [hdep])
        have e4 := I.v4 d4
        have n7 : L 7 = false := by cases hh : L 7 with | false => rfl | true => exact (by rw [I.c7 hh] at hn0; cases hn0)
        have xW := I.za n7
        refine wpOp_step rfl (fun K' hK => ?_)
        rw [e1, e4]
        go_simp
        refine (CF.out _ xW).mono ?_
        rintro e w3 ⟨rfl, x3⟩
        exact hK _ _ ⟨_, bit_set hL hsz 5 (by omega), fun jx => if jx = 12 then .int .i64 y else s jx, by first | (simp [frT1, e1, e4]; done) | (simp [frT1, e1, e4]; rfl), by simpa using hsz, ⟨I.v0, I.v1, I.v2, I.v3, I.v4, fun _ => rfl, I.v6, fun _ => d4, fun _ => d1, fun _ => rfl, fun _ => xW.trans x3, fun h => absurd (show L 7 = true from h) (by rw [n7]; decide)⟩⟩
      · -- operation 6
        simp only [Region.binds, listed_bit hL] at hdep
        have d0 : L 0 = true := by first | simpa [hL] using hdep | (simp at hdep; simp [hdep])
        have e0 := I.v0 d0
        refine wpOp_step rfl (fun K' hK => ?_)
        rw [e0]
        go_simp
        exact hK _ _ ⟨_, bit_set hL hsz 6 (by omega), fun jx => if jx = 13 then .pointer (some ⟨b, o, none⟩) else s jx, by first | (simp [frT1, e0]; done) | (simp [frT1, e0]; rfl), by simpa using hsz, ⟨I.v0, I.v1, I.v2, I.v3, I.v4, I.v5, fun _ => rfl, I.c5, I.c51, I.c7, I.za, I.zb⟩⟩
      · -- operation 7
        simp only [Region.binds, listed_bit hL] at hdep
        have d6 : L 6 = true := by first | simpa [hL] using hdep | (simp at hdep; simp [hdep])
        have e6 := I.v6 d6
        have d5 : L 5 = true := by first | simpa [hL] using hdep | (simp at hdep; simp [hdep])
        have e5 := I.v5 d5
        have n7 : L 7 = false := by cases hh : L 7 with | false => rfl | true => exact (by rw [hh] at hn0; cases hn0)
        have xW := I.za n7
        have cbW := (xW.below.cell (p := ⟨b, o, none⟩) lb).trans cb
        have fbW := (xW.below.frozen (p := ⟨b, o, none⟩) lb).trans fb
        have lbW : b < W.heap.size := Nat.lt_of_lt_of_le lb xW.below.size
        have c3W := (xW.below.cell (p := ⟨g3, 0, none⟩) p3).trans c3
        refine wpOp_step rfl (fun K' hK => ?_)
        rw [e6, e5]
        have IX := Lib.hid I
        clear I
        go_simp
        exact hK _ _ ⟨_, bit_set hL hsz 7 (by omega), s, by first | (simp [frT1, e6, e5]; done) | (simp [frT1, e6, e5]; rfl), by simpa using hsz, ⟨IX.out.v0, IX.out.v1, IX.out.v2, IX.out.v3, IX.out.v4, IX.out.v5, IX.out.v6, IX.out.c5, IX.out.c51, fun _ => d5, fun h => absurd h (by simp), fun _ => ⟨(HB.out.ext xW).set o _, (Keep.of_ext xW (· = b)).setCell (p := ⟨b, o, none⟩) rfl _⟩⟩⟩
    · rintro listed act W ⟨L, hL, s, rfl, hsz, I⟩ hr
      have ALL : ∀ i, i < 8 → L i = true := fun i hi => by rw [← hL i]; exact all_listed (by kernel_rfl) hsz hr i hi
      have Z := Lib.hid (I.zb (ALL 7 (by omega)))
      clear I hL ALL hr hsz
      unfold frT1
      go_end0
      exact ⟨rfl, by rw [ET.out]; exact Z.out⟩
end Go.Proofs.Ytadhkmplhgcgkaa.World
namespace Go.Proofs.Ytadhkmplhgcgkaa.World
open Go.RowKit Go.Proofs.Ytadhkmplhgcgkaa.Plain
set_option linter.unusedVariables false
attribute [local go_sem ↓] Go.wp_at_zero Go.wp_at_succ
/-- an element of a row of the call's own is turned -/
theorem Own.put {w : World} {base : Nat} {e : TypeId} {v u : Value} {n sz o : Nat} {c c' : Nat → Nat → Value} (h : Own w base e v n sz c) (ho : o < n * sz) (hf : flat n sz c' = (flat n sz c).set o u) :
    ∃ g cap cur, v = .slice (some ⟨g, 0, none⟩) n cap ∧ n ≤ cap ∧ cap ≤ 9223372036854775807 ∧ base ≤ g ∧ Blk w g e cur ∧ cur[o]? = (flat n sz c)[o]? ∧ ∀ w', Blk w' g e (cur.setIfInBounds o u) → Own w' base e v n sz c' := by
  have h : w.ownsRow base e sz v n (flat n sz c) := h
  rcases h.2 with ⟨rfl, h0⟩ | ⟨g, cap, cur, rfl, hb, hg, hn, hcap, hsz, ht⟩
  · subst h0; omega
  · have hm := hcap
    unfold maxLen at hm
    refine ⟨g, cap, cur, rfl, hn, by omega, hb, hg, ?_, fun w' hw => ?_⟩
    · rw [← ht, List.getElem?_take_of_lt ho]; simp
    · refine ⟨flat_len _ _ _, .inr ⟨g, cap, _, rfl, hb, hw, hn, hcap, by simpa using hsz, ?_⟩⟩
      rw [hf, ← ht]
      simp [List.take_set]
theorem flat_ints_set (l : List Int) (i : Nat) (y : Int) : flat l.length 1 (cI (l.set i y)) = (flat l.length 1 (cI l)).set i (.int .i64 y) := by
  have a : flat l.length 1 (cI l) = l.map (Value.int .i64) := flat_one l
  have b : flat (l.set i y).length 1 (cI (l.set i y)) = (l.set i y).map (Value.int .i64) := flat_one (l.set i y)
  rw [List.length_set] at b
  rw [a, b, List.map_set]
theorem wAt_set (l : List (Int × Int)) (i k : Nat) (y : Int × Int) (hi : i < l.length) : wAt (l.set i y) k = if k = i then y else wAt l k := by
  unfold wAt
  rw [List.getD_eq_getElem?_getD, List.getD_eq_getElem?_getD, List.getElem?_set]
  by_cases e : i = k
  · subst e; rw [if_pos rfl, if_pos hi, if_pos rfl]; rfl
  · rw [if_neg e, if_neg (fun h => e h.symm)]
theorem flat_waits_set (l : List (Int × Int)) (i : Nat) (hi : i < l.length) (y : Int × Int) (j : Nat) (hj : j < 2) (hy : ∀ q, q < 2 → q ≠ j → cW y q = cW (wAt l i) q) : flat l.length 2 (cWs (l.set i y)) = (flat l.length 2 (cWs l)).set (i * 2 + j) (cW y j) := by
  apply List.ext_getElem?
  intro q
  rw [List.getElem?_set, flat_len]
  by_cases hq : q < l.length * 2
  · have e : ∀ c : Nat → Nat → Value, (flat l.length 2 c)[q]? = some (c (q / 2) (q % 2)) := fun c => by
      unfold flat
      rw [List.getElem?_map, List.getElem?_range hq]; rfl
    rw [e, e]
    unfold cWs
    rw [wAt_set _ _ _ _ hi]
    by_cases h1 : q / 2 = i
    · rw [if_pos h1]
      by_cases h2 : q % 2 = j
      · rw [if_pos (by omega), if_pos (by omega), h2]
      · rw [if_neg (by omega), h1, hy _ (by omega) h2]
    · rw [if_neg h1, if_neg (by omega)]
  · have e : ∀ c : Nat → Nat → Value, (flat l.length 2 c)[q]? = none := fun c => List.getElem?_eq_none (by rw [flat_len]; omega)
    rw [e, e]
    split
    · rename_i h1
      rw [if_neg (by omega)]
    · rfl
theorem Own.away {w w' : World} {b pb : Nat} {e : TypeId} {v : Value} {n sz : Nat} {c : Nat → Nat → Value} (h : Own w b e v n sz c) (k : Keep (· = pb) w w') (hn : v.ownBlock ≠ some pb) : Own w' b e v n sz c := by
  have h : w.ownsRow b e sz v n (flat n sz c) := h
  refine ⟨h.1, ?_⟩
  rcases h.2 with hn' | ⟨g, cap, cur, e1, h1, hg, rest⟩
  · exact .inl hn'
  · exact .inr ⟨g, cap, cur, e1, h1, Blk.keep (show Blk w g e cur from hg) k (fun q => hn (by rw [e1, ← q]; rfl)), rest⟩
/-- the place of a thing that is left -/
def fA (at_ : List Int) (x : Int) : Int := at_.getD x.toNat 0
def okN (N : Nat) (x : Int) : Prop := x = 0 ∨ (0 ≤ x ∧ x < N)
def PTold (g7 : Nat) (re wa du : Value) (j : Nat) : Prop := j = g7 ∨ re.ownBlock = some j ∨ wa.ownBlock = some j ∨ du.ownBlock = some j
/-- registers on the way -/
structure TD (w0 : World) (base g7 g3 g4 gA N : Nat) (at_ : List Int) (cs : Array Value) (R : PR) (re wa du sn : Value) (wr : World) : Prop where
  b7 : Blk wr g7 31 cs
  b3 : Blk wr g3 68 #[.func (.func 35) #[] #[.pointer (some ⟨g4, 0, none⟩)]]
  b4 : Blk wr g4 22 #[.slice (some ⟨gA, 0, none⟩) N N]
  bA : Blk wr gA 3 (at_.map (Value.int .i64)).toArray
  rn : RegsNew wr base R re wa du sn
  k : Keep (PTold g7 re wa du) w0 wr
structure TS (gA N : Nat) (at_ : List Int) (re du : Value) : Prop where
  len : at_.length = N
  hN : N ≤ 100000
  are : re.ownBlock ≠ some gA
  adu : du.ownBlock ≠ some gA
section
variable {w0 w w' : World} {base g7 g3 g4 gA N : Nat} {at_ : List Int} {cs cs' : Array Value} {R : PR} {re wa du sn : Value}
theorem TD.calls (h : TD w0 base g7 g3 g4 gA N at_ cs R re wa du sn w) (s : TS gA N at_ re du) {x : Int} (hx : okN N x) : x ≠ 0 → ∀ W, Ext w W → Calls Try.prog 35 #[.int .i64 x, .pointer (some ⟨g4, 0, none⟩)] W fun e w' => e = .returned (.int .i64 (fA at_ x)) ∧ Ext W w' := fun h0 W x' => by
  rcases hx with e | ⟨h1, h2⟩
  · exact absurd e h0
  · obtain ⟨y, rfl⟩ := Int.eq_ofNat_of_zero_le h1
    have q := canon1 (h.b4.ext x') (h.bA.ext x') s.len s.hN y (by omega)
    unfold fA
    rw [Int.toNat_natCast]
    exact q
/-- a cell of the world's own box is turned -/
theorem TD.cell (h : TD w0 base g7 g3 g4 gA N at_ cs R re wa du sn w) (b : Blk w' g7 31 cs') (k : Keep (· = g7) w w') : TD w0 base g7 g3 g4 gA N at_ cs' R re wa du sn w' :=
  ⟨b, h.b3.keep k (h.b3.ne h.b7 (by decide)), h.b4.keep k (h.b4.ne h.b7 (by decide)), h.bA.keep k (h.bA.ne h.b7 (by decide)),
    ⟨h.rn.ap, h.rn.re.keep k h.b7 (by decide), h.rn.wa.keep k h.b7 (by decide), h.rn.du.keep k h.b7 (by decide), h.rn.sn.keep k h.b7 (by decide)⟩,
    h.k.trans (k.mono (fun j e => .inl e))⟩
theorem TD.ready (h : TD w0 base g7 g3 g4 gA N at_ cs R re wa du sn w) (s : TS gA N at_ re du) {i : Nat} (hi : i < R.ready.length) : ∃ g cap cur, re = .slice (some ⟨g, 0, none⟩) R.ready.length cap ∧ R.ready.length ≤ cap ∧ cap ≤ 9223372036854775807 ∧ Blk w g 3 cur ∧ cur[i]? = some (.int .i64 (R.ready.getD i 0)) ∧
    ∀ w' y, Blk w' g 3 (cur.setIfInBounds i (.int .i64 y)) → Keep (· = g) w w' → TD w0 base g7 g3 g4 gA N at_ cs { R with ready := R.ready.set i y } re wa du sn w' := by
  obtain ⟨g, cap, cur, e, h1, h2, h3, hb, hc, _⟩ := h.rn.re.put (o := i) (c' := cI (R.ready.set i 0)) (u := .int .i64 0) (by omega) (flat_ints_set _ _ _)
  refine ⟨g, cap, cur, e, h1, h2, hb, ?_, fun w' y b k => ?_⟩
  · rw [hc]
    have q := flat_at R.ready.length 1 (cI R.ready) i 0 hi (by omega)
    rw [Nat.mul_one, Nat.add_zero] at q
    exact q
  · obtain ⟨g', cap', cur', e', _, _, _, hb', _, hput⟩ := h.rn.re.put (o := i) (c' := cI (R.ready.set i y)) (u := .int .i64 y) (by omega) (flat_ints_set _ _ _)
    have eg : g' = g := by
      rw [e] at e'
      injection e' with e1 e2 e3; injection e1 with e1; injection e1 with e1; exact e1.symm
    subst eg
    have ec : cur' = cur := by
      have a : w.heap[g']? = _ := hb
      have a' : w.heap[g']? = _ := hb'
      rw [a] at a'
      injection a' with a'; injection a' with a'; exact a'.symm
    subst ec
    have own : re.ownBlock = some g' := by rw [e]; rfl
    have q := hput w' b
    refine ⟨h.b7.keep k (h.b7.ne hb (by decide)), h.b3.keep k (h.b3.ne hb (by decide)), h.b4.keep k (h.b4.ne hb (by decide)), h.bA.keep k (fun e => s.are (by rw [own, e])),
      ⟨h.rn.ap, ?_, h.rn.wa.keep k hb (by decide), h.rn.du.away k (h.rn.ap g' own), h.rn.sn.keep k hb (by decide)⟩, h.k.trans (k.mono (fun j ej => .inr (.inl (by rw [own, ej]))))⟩
    show Own w' base 3 re (R.ready.set i y).length 1 _
    rw [List.length_set]; exact q
theorem TD.due (h : TD w0 base g7 g3 g4 gA N at_ cs R re wa du sn w) (s : TS gA N at_ re du) {i : Nat} (hi : i < R.due.length) : ∃ g cap cur, du = .slice (some ⟨g, 0, none⟩) R.due.length cap ∧ R.due.length ≤ cap ∧ cap ≤ 9223372036854775807 ∧ Blk w g 3 cur ∧ cur[i]? = some (.int .i64 (R.due.getD i 0)) ∧
    ∀ w' y, Blk w' g 3 (cur.setIfInBounds i (.int .i64 y)) → Keep (· = g) w w' → TD w0 base g7 g3 g4 gA N at_ cs { R with due := R.due.set i y } re wa du sn w' := by
  obtain ⟨g, cap, cur, e, h1, h2, h3, hb, hc, _⟩ := h.rn.du.put (o := i) (c' := cI (R.due.set i 0)) (u := .int .i64 0) (by omega) (flat_ints_set _ _ _)
  refine ⟨g, cap, cur, e, h1, h2, hb, ?_, fun w' y b k => ?_⟩
  · rw [hc]
    have q := flat_at R.due.length 1 (cI R.due) i 0 hi (by omega)
    rw [Nat.mul_one, Nat.add_zero] at q
    exact q
  · obtain ⟨g', cap', cur', e', _, _, _, hb', _, hput⟩ := h.rn.du.put (o := i) (c' := cI (R.due.set i y)) (u := .int .i64 y) (by omega) (flat_ints_set _ _ _)
    have eg : g' = g := by
      rw [e] at e'
      injection e' with e1 e2 e3; injection e1 with e1; injection e1 with e1; exact e1.symm
    subst eg
    have ec : cur' = cur := by
      have a : w.heap[g']? = _ := hb
      have a' : w.heap[g']? = _ := hb'
      rw [a] at a'
      injection a' with a'; injection a' with a'; exact a'.symm
    subst ec
    have own : du.ownBlock = some g' := by rw [e]; rfl
    have q := hput w' b
    refine ⟨h.b7.keep k (h.b7.ne hb (by decide)), h.b3.keep k (h.b3.ne hb (by decide)), h.b4.keep k (h.b4.ne hb (by decide)), h.bA.keep k (fun e => s.adu (by rw [own, e])),
      ⟨h.rn.ap, h.rn.re.away k (fun e => h.rn.ap g' e own), h.rn.wa.keep k hb (by decide), ?_, h.rn.sn.keep k hb (by decide)⟩, h.k.trans (k.mono (fun j ej => .inr (.inr (.inr (by rw [own, ej])))))⟩
    show Own w' base 3 du (R.due.set i y).length 1 _
    rw [List.length_set]; exact q
theorem TD.wait (h : TD w0 base g7 g3 g4 gA N at_ cs R re wa du sn w) {i j : Nat} (hi : i < R.wait.length) (hj : j < 2) : ∃ g cap cur, wa = .slice (some ⟨g, 0, none⟩) R.wait.length cap ∧ R.wait.length ≤ cap ∧ cap ≤ 9223372036854775807 ∧ Blk w g 75 cur ∧ cur[i * 2 + j]? = some (cW (wAt R.wait i) j) ∧
    ∀ w' y, (∀ q, q < 2 → q ≠ j → cW y q = cW (wAt R.wait i) q) → Blk w' g 75 (cur.setIfInBounds (i * 2 + j) (cW y j)) → Keep (· = g) w w' → TD w0 base g7 g3 g4 gA N at_ cs { R with wait := R.wait.set i y } re wa du sn w' := by
  obtain ⟨g, cap, cur, e, h1, h2, h3, hb, hc, _⟩ := h.rn.wa.put (o := i * 2 + j) (c' := cWs (R.wait.set i (wAt R.wait i))) (u := cW (wAt R.wait i) j) (by omega) (flat_waits_set _ _ hi _ _ hj (fun _ _ _ => rfl))
  refine ⟨g, cap, cur, e, h1, h2, hb, ?_, fun w' y hy b k => ?_⟩
  · rw [hc]
    exact flat_at R.wait.length 2 (cWs R.wait) i j hi hj
  · obtain ⟨g', cap', cur', e', _, _, _, hb', _, hput⟩ := h.rn.wa.put (o := i * 2 + j) (c' := cWs (R.wait.set i y)) (u := cW y j) (by omega) (flat_waits_set _ _ hi _ _ hj hy)
    have eg : g' = g := by
      rw [e] at e'
      injection e' with e1 e2 e3; injection e1 with e1; injection e1 with e1; exact e1.symm
    subst eg
    have ec : cur' = cur := by
      have a : w.heap[g']? = _ := hb
      have a' : w.heap[g']? = _ := hb'
      rw [a] at a'
      injection a' with a'; injection a' with a'; exact a'.symm
    subst ec
    have own : wa.ownBlock = some g' := by rw [e]; rfl
    have q := hput w' b
    refine ⟨h.b7.keep k (h.b7.ne hb (by decide)), h.b3.keep k (h.b3.ne hb (by decide)), h.b4.keep k (h.b4.ne hb (by decide)), h.bA.keep k (h.bA.ne hb (by decide)),
      ⟨h.rn.ap, h.rn.re.keep k hb (by decide), ?_, h.rn.du.keep k hb (by decide), h.rn.sn.keep k hb (by decide)⟩, h.k.trans (k.mono (fun j ej => .inr (.inr (.inl (by rw [own, ej])))))⟩
    show Own w' base 75 wa (R.wait.set i y).length 2 _
    rw [List.length_set]; exact q
end
end Go.Proofs.Ytadhkmplhgcgkaa.World
