/-
  RefWorld, Bytes, Read, as one text (a claim has at most 60 files).
-/
import Derived.Test.YtadhkmplhgcgkaaMc11
import Derived.Test.YtadhkmplhgcgkaaMc23
import Derived.Test.YtadhkmplhgcgkaaMc08
import Derived.Test.YtadhkmplhgcgkaaMc02
import Derived.Test.YtadhkmplhgcgkaaMc09
import Derived.Deep.AppendLies
import Derived.Lib.AppendStr
import Derived.Deep.RegionHeld3
import Derived.Test.YtadhkmplhgcgkaaMc10
import Derived.Deep.Slices
namespace Go.Proofs.Ytadhkmplhgcgkaa.World
open Go.RowKit Go.Proofs.Ytadhkmplhgcgkaa.Plain
set_option linter.unusedVariables false
attribute [local go_sem ↓] Go.wp_at_zero Go.wp_at_succ
theorem rcopy_ok {w : World} {x : WV} {W : PW} (h : WorldAt w x W) (hc : checkB W = true) : Calls Try.prog 43 #[.agg (cellsW W x)] w fun e w' => (∃ x', e = .returned (.agg (cellsW W x')) ∧ NewW w' w.heap.size W x') ∧ Ext w w' := by
  have q := regs_lens hc
  have n := check_len hc
  have dl : W.dead.length ≤ 1000000 := by
    have c := hc
    unfold checkB at c
    simp only [Bool.and_eq_true, decide_eq_true_eq] at c
    have := c.2.1
    omega
  have sn20 : W.R.snaps.length ≤ 1000000 := by
    have c := check_regs hc
    unfold regsB at c
    simp only [Bool.and_eq_true, decide_eq_true_eq] at c
    omega
  refine rcopy h (by omega) dl (by omega) (by omega) (by omega) sn20 (fun i hi => ?_)
  have z := (check_thing hc hi).2
  unfold shapeB at z
  split at z
  · simp only [Bool.and_eq_true, decide_eq_true_eq] at z; omega
  · split at z
    · simp only [Bool.and_eq_true, decide_eq_true_eq] at z; omega
    · cases z
theorem keep13 (w : World) (p : Nat) (x0 x1 x2 x3 x4 x5 x6 x7 x8 x9 x10 x11 x12 : Value) : Keep (· = p) w (((((((((((((w.setCell ⟨p, 0, none⟩ x0).setCell ⟨p, 1, none⟩ x1).setCell ⟨p, 2, none⟩ x2).setCell ⟨p, 3, none⟩ x3).setCell ⟨p, 4, none⟩ x4).setCell ⟨p, 5, none⟩ x5).setCell ⟨p, 6, none⟩ x6).setCell ⟨p, 7, none⟩ x7).setCell ⟨p, 8, none⟩ x8).setCell ⟨p, 9, none⟩ x9).setCell ⟨p, 10, none⟩ x10).setCell ⟨p, 11, none⟩ x11).setCell ⟨p, 12, none⟩ x12) :=
  ((((((((((((((Keep.refl (· = p) w).setCell (p := ⟨p, 0, none⟩) rfl x0).setCell (p := ⟨p, 1, none⟩) rfl x1).setCell (p := ⟨p, 2, none⟩) rfl x2).setCell (p := ⟨p, 3, none⟩) rfl x3).setCell (p := ⟨p, 4, none⟩) rfl x4).setCell (p := ⟨p, 5, none⟩) rfl x5).setCell (p := ⟨p, 6, none⟩) rfl x6).setCell (p := ⟨p, 7, none⟩) rfl x7).setCell (p := ⟨p, 8, none⟩) rfl x8).setCell (p := ⟨p, 9, none⟩) rfl x9).setCell (p := ⟨p, 10, none⟩) rfl x10).setCell (p := ⟨p, 11, none⟩) rfl x11).setCell (p := ⟨p, 12, none⟩) rfl x12)
theorem ext13 {a w : World} {p : Nat} (h : Ext a w) (hp : a.heap.size ≤ p) (x0 x1 x2 x3 x4 x5 x6 x7 x8 x9 x10 x11 x12 : Value) : Ext a (((((((((((((w.setCell ⟨p, 0, none⟩ x0).setCell ⟨p, 1, none⟩ x1).setCell ⟨p, 2, none⟩ x2).setCell ⟨p, 3, none⟩ x3).setCell ⟨p, 4, none⟩ x4).setCell ⟨p, 5, none⟩ x5).setCell ⟨p, 6, none⟩ x6).setCell ⟨p, 7, none⟩ x7).setCell ⟨p, 8, none⟩ x8).setCell ⟨p, 9, none⟩ x9).setCell ⟨p, 10, none⟩ x10).setCell ⟨p, 11, none⟩ x11).setCell ⟨p, 12, none⟩ x12) :=
  (((((((((((((h.setNew (p := ⟨p, 0, none⟩) hp x0).setNew (p := ⟨p, 1, none⟩) hp x1).setNew (p := ⟨p, 2, none⟩) hp x2).setNew (p := ⟨p, 3, none⟩) hp x3).setNew (p := ⟨p, 4, none⟩) hp x4).setNew (p := ⟨p, 5, none⟩) hp x5).setNew (p := ⟨p, 6, none⟩) hp x6).setNew (p := ⟨p, 7, none⟩) hp x7).setNew (p := ⟨p, 8, none⟩) hp x8).setNew (p := ⟨p, 9, none⟩) hp x9).setNew (p := ⟨p, 10, none⟩) hp x10).setNew (p := ⟨p, 11, none⟩) hp x11).setNew (p := ⟨p, 12, none⟩) hp x12)
set_option maxRecDepth 100000 in
set_option maxHeartbeats 4000000 in
theorem lworld {w : World} {x : WV} {W : PW} (h : WorldAt w x W) (hc : checkB W = true) : Calls Try.prog 20 #[.agg (cellsW W x)] w fun e w' => (∃ x', e = .returned (.agg (cellsW W x')) ∧ NewW w' w.heap.size W x') ∧ Ext w w' := by
  have CE := Lib.hid (fun W2 (z : Ext w W2) => rcopy_ok (h.ext z) hc)
  unfold cellsW at CE ⊢
  obtain ⟨vL, fs, vD, vRe, vWa, vDu, vSn⟩ := x
  simp only at CE ⊢
  obtain ⟨AvL, cvL, evL, lvL, _⟩ := h.L.row.form
  replace evL : vL = .slice AvL W.L.length cvL := evL
  subst evL
  obtain ⟨AvD, cvD, evD, lvD, _⟩ := Row.form h.dead
  replace evD : vD = .slice AvD W.dead.length cvD := evD
  subst evD
  obtain ⟨AvRe, cvRe, evRe, lvRe, _⟩ := Row.form h.ready
  replace evRe : vRe = .slice AvRe W.R.ready.length cvRe := evRe
  subst evRe
  obtain ⟨AvWa, cvWa, evWa, lvWa, _⟩ := Row.form h.wait
  replace evWa : vWa = .slice AvWa W.R.wait.length cvWa := evWa
  subst evWa
  obtain ⟨AvDu, cvDu, evDu, lvDu, _⟩ := Row.form h.due
  replace evDu : vDu = .slice AvDu W.R.due.length cvDu := evDu
  subst evDu
  obtain ⟨AvSn, cvSn, evSn, lvSn, _⟩ := Row.form h.snaps
  replace evSn : vSn = .slice AvSn W.R.snaps.length cvSn := evSn
  subst evSn
  clear h
  go_enter Try.func20, Try.ntmps20
  go_upto_region 1 with (fail)
  refine wp_name (fun W1 hW => ?_)
  have b2 := Blk.new' hW
  have b1 : Blk W1 w.heap.size _ _ := (Blk.new w _ _).alloc' hW
  have x1 := ((Ext.refl w).alloc _).alloc' hW
  simp only [World.size_alloc] at b2
  clear hW
  obtain ⟨r1, r2, r3⟩ := b1.rules
  have X1 := Lib.hid x1
  have B2 := Lib.hid b2
  clear b1 b2 x1
  have hp : w.heap.size ≤ w.heap.size + 1 := Nat.le_succ _
  generalize hq : w.heap.size = q at *
  have QB := Lib.hid hq
  generalize q + 1 = pb at *
  clear hq
  go_wp2_with ((go_at_call 43; refine (CE.out _ X1.out).mono ?_; rintro e w2 ⟨⟨xc, rfl, nc⟩, x2⟩; obtain ⟨cL, cfs, cD, cRe, cWa, cDu, cSn⟩ := xc; obtain ⟨aL, kL, fL⟩ := Own.form nc.L; obtain ⟨aD, kD, fD⟩ := Own.form nc.dead; obtain ⟨aRe, kRe, fRe⟩ := Own.form nc.R.re; obtain ⟨aWa, kWa, fWa⟩ := Own.form nc.R.wa; obtain ⟨aDu, kDu, fDu⟩ := Own.form nc.R.du; obtain ⟨aSn, kSn, fSn⟩ := Own.form nc.R.sn; simp only at fL fD fRe fWa fDu fSn; subst fL fD fRe fWa fDu fSn; have NC := Lib.hid nc; have X2 := Lib.hid (X1.out.trans x2); have B3 := Lib.hid (B2.out.ext x2); have SZ := Lib.hid X1.out.below.size; clear r1 r2 r3; obtain ⟨r1, r2, r3⟩ := (B2.out.ext x2).rules; clear nc x2))
  have hpw : w.heap.size ≤ pb := by rw [QB.out]; exact hp
  have KP := keep13 w2 pb (.slice aL W.L.length kL) (.slice aD W.dead.length kD) (.int .i64 W.last) (.int .i64 W.R.proc) (.int .i64 W.R.frame) (.slice aRe W.R.ready.length kRe) (.slice aWa W.R.wait.length kWa) (.slice aDu W.R.due.length kDu) (.string W.R.out) (.string W.R.inp) (.int .i64 W.R.how) (.int .i64 W.R.exit) (.slice aSn W.R.snaps.length kSn)
  have XE := ext13 X2.out hpw (.slice aL W.L.length kL) (.slice aD W.dead.length kD) (.int .i64 W.last) (.int .i64 W.R.proc) (.int .i64 W.R.frame) (.slice aRe W.R.ready.length kRe) (.slice aWa W.R.wait.length kWa) (.slice aDu W.R.due.length kDu) (.string W.R.out) (.string W.R.inp) (.int .i64 W.R.how) (.int .i64 W.R.exit) (.slice aSn W.R.snaps.length kSn)
  have KPT : KT [31] w2 _ := Keep.mono KP (fun j e => by subst e; exact ⟨_, _, by simp, B3.out⟩)
  refine bodyPost_ret (v := .agg #[.slice aL W.L.length kL, .slice aD W.dead.length kD, .int .i64 W.last, .int .i64 W.R.proc, .int .i64 W.R.frame, .slice aRe W.R.ready.length kRe, .slice aWa W.R.wait.length kWa, .slice aDu W.R.due.length kDu, .string W.R.out, .string W.R.inp, .int .i64 W.R.how, .int .i64 W.R.exit, .slice aSn W.R.snaps.length kSn]) (by simp [results, Try.results20, go_sem, r1]) rfl ?_
  refine ⟨⟨⟨.slice aL W.L.length kL, cfs, .slice aD W.dead.length kD, .slice aRe W.R.ready.length kRe, .slice aWa W.R.wait.length kWa, .slice aDu W.R.due.length kDu, .slice aSn W.R.snaps.length kSn⟩, rfl, ?_⟩, XE⟩
  rw [QB.out]
  exact (NC.out.kt KPT (by decide) (by decide) (by decide) (by decide) (by decide) (by decide)).base (by have := SZ.out; rw [QB.out] at this; exact this)
end Go.Proofs.Ytadhkmplhgcgkaa.World
namespace Go.Proofs.Ytadhkmplhgcgkaa.World
open Go.RowKit Go.Proofs.Ytadhkmplhgcgkaa.Plain
set_option linter.unusedVariables false
attribute [local go_sem ↓] Go.wp_at_zero Go.wp_at_succ
def OwnB (w : World) (base : Nat) (v : Value) (zs : List Int) : Prop := w.ownsRow base 5 1 v zs.length (zs.map (Value.int .u8))
theorem infoU : (Try.prog.info? 5).map (fun i => (i.zero, i.size, i.bytes)) = some (some (.int .u8 0), 1, 1) := by kernel_rfl
theorem OwnB.nil (w : World) (base : Nat) : OwnB w base (.slice none 0 0) [] := World.ownsRow_nil _ _ _ _
def cU (l : List Int) : Nat → Nat → Value := fun i _ => .int .u8 (l.getD i 0)
theorem flat_oneU (zs : List Int) : flat zs.length 1 (cU zs) = zs.map (Value.int .u8) := by
  refine List.ext_getElem? fun i => ?_
  rcases Nat.lt_or_ge i zs.length with h | h
  · have := flat_at zs.length 1 (cU zs) i 0 h (by omega)
    rw [Nat.mul_one, Nat.add_zero] at this
    rw [this, List.getElem?_map, List.getElem?_eq_getElem h]
    unfold cU
    rw [List.getD_eq_getElem?_getD, List.getElem?_eq_getElem h]; rfl
  · rw [List.getElem?_eq_none (by rw [flat_len]; omega), List.getElem?_eq_none (by simpa using h)]
theorem OwnB.own {w : World} {base : Nat} {v : Value} {zs : List Int} (h : OwnB w base v zs) : Own w base 5 v zs.length 1 (cU zs) := by
  unfold Own; rw [flat_oneU]; exact h
theorem Own.bytes {w : World} {base : Nat} {v : Value} {zs : List Int} (h : Own w base 5 v zs.length 1 (cU zs)) : OwnB w base v zs := by
  unfold Own at h; rw [flat_oneU] at h; exact h
theorem OwnB.ext {w w' : World} {base : Nat} {v : Value} {zs : List Int} (h : OwnB w base v zs) (x : Ext w w') : OwnB w' base v zs := Own.bytes (h.own.ext x)
theorem OwnB.kt {w w' : World} {base : Nat} {v : Value} {zs : List Int} {ts : List TypeId} (h : OwnB w base v zs) (k : KT ts w w') (hn : 5 ∉ ts) : OwnB w' base v zs := Own.bytes (h.own.kt k hn)
theorem OwnB.keep {w w' : World} {base : Nat} {v : Value} {zs : List Int} (h : OwnB w base v zs) {w0 : World} (x : Ext w0 w) (hb : base = w0.heap.size) (k : Keep (fun j => v.ownBlock = some j) w w') : KT [5] w w' ∧ Ext w0 w' :=
  ⟨Keep.mono k (fun j hj => by obtain ⟨_, cs, hb⟩ := h.own.block hj; exact ⟨_, _, by simp, hb⟩), Ext.of_below (Keep.below x.below k x.below.size (fun i hi e => by have := (h.own.block e).1; omega))⟩
theorem OwnB.form {w : World} {base : Nat} {v : Value} {zs : List Int} (h : OwnB w base v zs) : ∃ A c, v = .slice A zs.length c := by
  rcases h.2 with ⟨e, h0⟩ | ⟨g, cap, cur, e, _⟩
  · rw [e, h0]; exact ⟨_, _, rfl⟩
  · exact ⟨_, _, e⟩
/-- a number's four bytes -/
def b4 (n : Int) : List Int := [n / 16777216, n / 65536 % 256, n / 256 % 256, n % 256]
section
variable {w : World}
set_option maxRecDepth 100000 in
set_option maxHeartbeats 2000000 in
theorem number {base : Nat} {v : Value} {zs : List Int} (h : OwnB w base v zs) (hz : zs.length ≤ 10000000) {w0 : World} (x0 : Ext w0 w) (hb : base = w0.heap.size) {n : Int} (n0 : 0 ≤ n) (n1 : n < 4294967296) :
    Calls Try.prog 40 #[v, .int .u32 n] w fun e w' => ∃ A c, e = .returned (.slice A (zs.length + 4) c) ∧ OwnB w' base (.slice A (zs.length + 4) c) (zs ++ b4 n) ∧ KT [5] w w' ∧ Ext w0 w' := by
  obtain ⟨A0, c0, rfl⟩ := h.form
  obtain ⟨i0, hi, hz0, hz1, hz2⟩ := info_parts infoU
  have HH := Lib.hid h
  have X0 := Lib.hid x0
  have hbw : base ≤ w.heap.size := by rw [hb]; exact x0.below.size
  have HB := Lib.hid hb
  clear h x0 hb
  go_enter Try.func40, Try.ntmps40
  have XV := Lib.hid ((Ext.refl w).alloc (.cells #[.int .u8 (n / 16777216), .int .u8 (n / 65536 % 256), .int .u8 (n / 256 % 256), .int .u8 (n % 256)] 5))
  go_wp2_with (at_builtin; refine wpList_append_own_at _ rfl (.tmp 5) (.tmp 17) 45 rfl base 5 i0 (.int .u8 0) 1 1 Try.underlying45 hi hz0 hz1 hz2 rfl (by decide) (.slice A0 zs.length c0) zs.length (zs.map (Value.int .u8)) rfl ?c0 ⟨w.heap.size, 0, none⟩ 4 4 [.int .u8 (n / 16777216), .int .u8 (n / 65536 % 256), .int .u8 (n / 256 % 256), .int .u8 (n % 256)] rfl rfl ?c1 ?c2 ?c3 ?c4 ?c5 ?_)
  case c0 => exact HH.out.ext XV.out
  case c1 =>
    intro q u hq
    have hB := Blk.new w 5 #[.int .u8 (n / 16777216), .int .u8 (n / 65536 % 256), .int .u8 (n / 256 % 256), .int .u8 (n % 256)]
    rw [Addr.add_lit, Nat.zero_add, hB.cell, ← Array.getElem?_toList]
    exact hq
  case c2 =>
    intro u hu
    simp only [List.mem_cons, List.not_mem_nil, or_false] at hu
    rcases hu with rfl | rfl | rfl | rfl <;> rfl
  case c3 => unfold maxLen; omega
  case c4 => omega
  case c5 => have h2 := XV.out.below.size; omega
  intro v' w3 o3 g3 _ _
  have KW : Keep (fun j => Value.ownBlock (.slice A0 zs.length c0) = some j) (w.alloc (.cells #[.int .u8 (n / 16777216), .int .u8 (n / 65536 % 256), .int .u8 (n / 256 % 256), .int .u8 (n % 256)] 5)) w3 := ⟨g3.os, g3.tape, g3.output, g3.size, fun k hk hn => g3.block k hk (fun e => hn e.symm)⟩
  obtain ⟨gd, cd, rfl, _⟩ := o3.form (by omega)
  have KF := Lib.hid ((Keep.of_ext XV.out _).trans KW)
  have O3 : Hid (OwnB w3 base (.slice (some ⟨gd, 0, none⟩) (zs.length + 4) cd) (zs ++ b4 n)) := Lib.hid (by
    unfold OwnB b4
    rw [List.length_append, List.map_append]
    exact o3)
  clear KW o3 g3
  go_wp2_with fail
  go_ret
  obtain ⟨k3, x3⟩ := HH.out.keep X0.out HB.out KF.out
  exact ⟨_, _, rfl, O3.out, k3, x3⟩
end
end Go.Proofs.Ytadhkmplhgcgkaa.World
namespace Go.Proofs.Ytadhkmplhgcgkaa.World
open Go.RowKit Go.Proofs.Ytadhkmplhgcgkaa.Plain
set_option linter.unusedVariables false
attribute [local go_sem ↓] Go.wp_at_zero Go.wp_at_succ
/-- a reading: the bytes that are left, what is wrong -/
structure RdS where
  b : List Int
  e : Int
def wrongR (x : Int) (s : RdS) : RdS := if s.e = 0 then ⟨s.b, x⟩ else s
def takeR (n : Nat) (s : RdS) : List Int × RdS := if s.e = 0 then (if n ≤ s.b.length then (s.b.take n, ⟨s.b.drop n, 0⟩) else (List.replicate (min n 4) 0, ⟨s.b, 3⟩)) else (List.replicate (min n 4) 0, s)
def beV (l : List Int) : Int := l.foldl (fun v x => v * 256 + x) 0
def numR (s : RdS) : Int × RdS := (beV (takeR 4 s).1, (takeR 4 s).2)
def okB (l : List Int) : Prop := ∀ x ∈ l, 0 ≤ x ∧ x < 256
/-- the reader's box, its bytes in elder memory -/
structure RdAt (w0 w : World) (g : Nat) (s : RdS) : Prop where
  ex : ∃ v, Blk w g 78 #[v, .int .i64 s.e] ∧ Row w0 v s.b.length 1 (cU s.b)
  x : Ext w0 w
  hg : w0.heap.size ≤ g
theorem RdAt.ext {w0 w w' : World} {g : Nat} {s : RdS} (h : RdAt w0 w g s) (y : Ext w w') : RdAt w0 w' g s := by
  obtain ⟨v, b, r⟩ := h.ex
  exact ⟨⟨v, b.ext y, r⟩, h.x.trans y, h.hg⟩
section
variable {w w0 : World} {g : Nat} {s : RdS}
set_option maxRecDepth 100000 in
set_option maxHeartbeats 1000000 in
theorem wrong_ (h : RdAt w0 w g s) (x : Int) : Calls Try.prog 44 #[.pointer (some ⟨g, 0, none⟩), .int .i64 x] w fun e w' => e = .returned (.tuple #[]) ∧ RdAt w0 w' g (wrongR x s) ∧ Keep (· = g) w w' := by
  obtain ⟨v, b, r⟩ := h.ex
  obtain ⟨A, c, ev, _⟩ := Row.form r
  subst ev
  have HH := Lib.hid h
  have HB := Lib.hid b
  have HR := Lib.hid r
  obtain ⟨r1, r2, r3⟩ := b.rules
  clear h b r
  obtain ⟨bs, se⟩ := s
  simp only at r1 HB HR
  by_cases h0 : se = 0
  · subst h0
    have EW : Hid (wrongR x ⟨bs, 0⟩ = ⟨bs, x⟩) := Lib.hid rfl
    go_enter Try.func44, Try.ntmps44
    go_wp2_with fail
    go_end0
    refine ⟨rfl, ?_, (Keep.refl (· = g) w).setCell (p := ⟨g, 1, none⟩) rfl _⟩
    rw [EW.out]
    exact ⟨⟨_, by have := HB.out.set 1 (.int .i64 x); simpa using this, HR.out⟩, HH.out.x.setNew (p := ⟨g, 1, none⟩) HH.out.hg _, HH.out.hg⟩
  · have e0 : (se == 0) = false := beq_eq_false_iff_ne.2 h0
    have EW : Hid (wrongR x ⟨bs, se⟩ = ⟨bs, se⟩) := Lib.hid (by unfold wrongR; rw [if_neg h0])
    clear h0
    go_enter Try.func44, Try.ntmps44
    go_wp2_with fail
    go_end0
    refine ⟨rfl, by rw [EW.out]; exact HH.out, Keep.refl _ _⟩
theorem make_bytes (n : Nat) (hn : n ≤ 1000000) (w : World) : (Instr.makeSlice 45 (.int .i64 (n : Int)) (.int .i64 (n : Int))).run Try.prog w = .ok (.slice (some ⟨w.heap.size, 0, none⟩) n n) (w.alloc (.cells ((List.replicate n (0 : Int)).map (Value.int .u8)).toArray 5)) := by
  obtain ⟨i0, hi, hz0, hz1, hz2⟩ := info_parts infoU
  have h := run_make (P := Try.prog) w 45 5 i0 (.int .u8 0) Try.underlying45 hi hz0 .i64 .i64 (n : Int) (n : Int) (by omega) (by omega) (by rw [hz2]; omega) (by omega)
  rw [h]
  have e : madeCells (Value.cells (.int .u8 0)) ((n : Int).toNat * i0.size) = ((List.replicate n (0 : Int)).map (Value.int .u8)).toArray := by
    rw [hz1, Int.toNat_natCast]
    apply Array.ext
    · simp [madeCells]
    · intro j h1 h2
      simp [madeCells, Value.cells, Nat.mod_one]
  rw [e, Int.toNat_natCast]
theorem rowB {w : World} {g' : Nat} {l : List Int} (h : Blk w g' 5 (l.map (Value.int .u8)).toArray) (hm : l.length ≤ 1000000) : Row w (.slice (some ⟨g', 0, none⟩) l.length l.length) l.length 1 (cU l) :=
  ⟨_, _, rfl, Nat.le_refl _, by omega, fun i hi => ⟨g', 0, rfl, h.lt, fun j hj => by
    obtain rfl : j = 0 := by omega
    rw [show 0 + i * 1 + 0 = i from by omega, h.cell]
    unfold cU
    simp [List.getD_eq_getElem?_getD, hi]⟩⟩
theorem row_take {w : World} {A : Option Addr} {c n : Nat} {l : List Int} (h : Row w (.slice A l.length c) l.length 1 (cU l)) (hn : n ≤ l.length) : Row w (.slice A n c) (l.take n).length 1 (cU (l.take n)) := by
  obtain ⟨A', c', e, h1, h2, h3⟩ := h.ex
  injection e with e1 e2 e3
  subst e1 e3
  have hl : (l.take n).length = n := by rw [List.length_take]; omega
  refine ⟨A, c, by rw [hl], by omega, h2, fun i hi => ?_⟩
  obtain ⟨b, off, ea, hb, hc⟩ := h3 i (by omega)
  refine ⟨b, off, ea, hb, fun j hj => ?_⟩
  rw [hc j hj]
  unfold cU
  rw [List.getD_eq_getElem?_getD, List.getD_eq_getElem?_getD, List.getElem?_take_of_lt (by omega)]
theorem row_drop {w : World} {A : Option Addr} {c n : Nat} {l : List Int} (h : Row w (.slice A l.length c) l.length 1 (cU l)) (hn : n ≤ l.length) : Row w (.slice (Option.map (fun x => x.add n) A) (l.length - n) (c - n)) (l.drop n).length 1 (cU (l.drop n)) := by
  obtain ⟨A', c', e, h1, h2, h3⟩ := h.ex
  injection e with e1 e2 e3
  subst e1 e3
  have hl : (l.drop n).length = l.length - n := List.length_drop
  refine ⟨_, _, by rw [hl], by omega, by omega, fun i hi => ?_⟩
  obtain ⟨b, off, ea, hb, hc⟩ := h3 (n + i) (by omega)
  refine ⟨b, off + n, by rw [ea]; show some (Addr.add ⟨b, off, none⟩ n) = _; rw [Addr.add_lit], hb, fun j hj => ?_⟩
  obtain rfl : j = 0 := by omega
  have q := hc 0 (by omega)
  rw [show off + n + i * 1 + 0 = off + (n + i) * 1 + 0 from by omega, q]
  unfold cU
  rw [List.getD_eq_getElem?_getD, List.getD_eq_getElem?_getD, List.getElem?_drop]
theorem row_none {w : World} {A : Option Addr} {c : Nat} {v : Value} (hv : v = .slice A 0 c) (hc : c ≤ 9223372036854775807) : Row w v ([] : List Int).length 1 (cU []) :=
  ⟨A, c, hv, Nat.zero_le _, hc, fun i hi => absurd hi (Nat.not_lt_zero _)⟩
theorem rowZ (w : World) (n : Nat) (hn : n ≤ 1000000) : Row (w.alloc (.cells (Array.replicate n (.int .u8 0)) 5)) (.slice (some ⟨w.heap.size, 0, none⟩) n n) (List.replicate n (0 : Int)).length 1 (cU (List.replicate n 0)) := by
  have e : ((List.replicate n (0 : Int)).map (Value.int .u8)).toArray = Array.replicate n (.int .u8 0) := by simp
  have hl : (List.replicate n (0 : Int)).length = n := List.length_replicate
  have q := rowB (w := w.alloc (.cells (Array.replicate n (.int .u8 0)) 5)) (g' := w.heap.size) (l := List.replicate n 0) (by rw [e]; exact Blk.new w _ _) (by rw [hl]; exact hn)
  rw [hl] at q ⊢
  exact q
theorem make_zeros (n : Nat) (hn : n ≤ 1000000) (w : World) : (Instr.makeSlice 45 (.int .i64 (n : Int)) (.int .i64 (n : Int))).run Try.prog w = .ok (.slice (some ⟨w.heap.size, 0, none⟩) n n) (w.alloc (.cells (Array.replicate n (.int .u8 0)) 5)) := by
  rw [make_bytes n hn]; simp
set_option maxRecDepth 100000 in
set_option maxHeartbeats 1000000 in
theorem take_ (h : RdAt w0 w g s) (n : Nat) (hn : n ≤ 4294967295) : Calls Try.prog 45 #[.pointer (some ⟨g, 0, none⟩), .int .i64 (n : Int)] w fun e w' => ∃ v, e = .returned v ∧ Row w' v (takeR n s).1.length 1 (cU (takeR n s).1) ∧ RdAt w0 w' g (takeR n s).2 ∧ Keep (· = g) w w' := by
  obtain ⟨v, b, r⟩ := h.ex
  obtain ⟨A, c, ev, lc, lm⟩ := Row.form r
  subst ev
  have HH := Lib.hid h
  have HB := Lib.hid b
  have HR := Lib.hid r
  have CW := Lib.hid (fun W2 (z : Ext w W2) => wrong_ (h.ext z) 3)
  obtain ⟨r1, r2, r3⟩ := b.rules
  clear h b r
  obtain ⟨bs, se⟩ := s
  simp only at r1 HB HR lc
  obtain ⟨mn, hmn⟩ : ∃ mn, min n 4 = mn := ⟨_, rfl⟩
  have hm4 : mn ≤ 4 := by omega
  have MN := Lib.hid hmn
  have hmi : (if (n : Int) < 4 then (n : Int) else 4) = (mn : Int) := by split <;> omega
  by_cases h0 : se = 0
  · subst h0
    by_cases hle : n ≤ bs.length
    · have hI : (n : Int) ≤ (bs.length : Int) := by omega
      have ET : Hid (takeR n ⟨bs, 0⟩ = (bs.take n, ⟨bs.drop n, 0⟩)) := Lib.hid (by unfold takeR; rw [if_pos rfl, if_pos hle])
      have RT := Lib.hid (row_take HR.out hle)
      have RD := Lib.hid (row_drop HR.out hle)
      go_enter Try.func45, Try.ntmps45
      go_wp2_with fail
      refine wp_scope_straight ?_
      go_wp2_with fail
      case inr =>
        go_ret
        rw [ET.out]
        refine ⟨_, rfl, Row.ext RT.out (HH.out.x.setNew (p := ⟨g, 0, none⟩) HH.out.hg _), ⟨⟨_, by have := HB.out.set 0 (.slice (Option.map (fun x => x.add n) A) (bs.length - n) (c - n)); simpa using this, RD.out⟩, HH.out.x.setNew (p := ⟨g, 0, none⟩) HH.out.hg _, HH.out.hg⟩, (Keep.refl (· = g) w).setCell (p := ⟨g, 0, none⟩) rfl _⟩
      case inl =>
        have hbn : bs.length = n := by omega
        have hcn : c = n := by omega
        go_ret
        rw [ET.out]
        have hd : bs.drop n = [] := List.drop_of_length_le (by omega)
        have RT2 := RT.out
        rw [hcn] at RT2
        refine ⟨_, rfl, Row.ext RT2 (HH.out.x.setNew (p := ⟨g, 0, none⟩) HH.out.hg _), ⟨⟨_, by have := HB.out.set 0 (.slice A (bs.length - n) 0); simpa using this, ?_⟩, HH.out.x.setNew (p := ⟨g, 0, none⟩) HH.out.hg _, HH.out.hg⟩, (Keep.refl (· = g) w).setCell (p := ⟨g, 0, none⟩) rfl _⟩
        show Row w0 _ (bs.drop n).length 1 (cU (bs.drop n))
        rw [hd]
        exact row_none (by rw [hbn, Nat.sub_self]) (by omega)
    · have hI : ¬ (n : Int) ≤ (bs.length : Int) := by omega
      have ET : Hid (takeR n ⟨bs, 0⟩ = (List.replicate mn 0, ⟨bs, 3⟩)) := Lib.hid (by unfold takeR; rw [if_pos rfl, if_neg hle, MN.out])
      have EW : Hid (wrongR 3 ⟨bs, 0⟩ = ⟨bs, 3⟩) := Lib.hid rfl
      go_enter Try.func45, Try.ntmps45
      go_wp2_with fail
      refine wp_scope_straight ?_
      go_wp2_with (go_at_call 44; refine (CW.out _ (is_ext _ _)).mono ?_; rintro e w2 ⟨rfl, hr, k2⟩; rw [EW.out] at hr; have H2 := Lib.hid hr; have K2 := Lib.hid k2; clear hr k2)
      refine wp_label ?_
      rcases Nat.lt_trichotomy n 4 with h4 | h4 | h4
      · obtain rfl : mn = n := by omega
        have h4i : (mn : Int) < 4 := by omega
        have mk := make_zeros mn (by omega)
        clear hmn hmi
        go_wp2_with fail
        try rw [Exit.noGoto_ret]
        go_ret
        rw [ET.out]
        exact ⟨_, rfl, rowZ w2 mn (by omega), H2.out.ext ((Ext.refl _).alloc _), Keep.ext K2.out ((Ext.refl _).alloc _)⟩
      · obtain rfl : n = 4 := h4
        obtain rfl : mn = 4 := by omega
        have mk : ∀ W2, (Instr.makeSlice 45 (.int .i64 4) (.int .i64 4)).run Try.prog W2 = .ok (.slice (some ⟨W2.heap.size, 0, none⟩) 4 4) (W2.alloc (.cells (Array.replicate 4 (.int .u8 0)) 5)) := fun W2 => make_zeros 4 (by omega) W2
        have mk2 := make_zeros 4 (by omega)
        clear hmn hmi
        go_wp2_with fail
        try rw [Exit.noGoto_ret]
        go_ret
        rw [ET.out]
        exact ⟨_, rfl, rowZ w2 4 (by omega), H2.out.ext ((Ext.refl _).alloc _), Keep.ext K2.out ((Ext.refl _).alloc _)⟩
      · obtain rfl : mn = 4 := by omega
        have h4i : ¬ (n : Int) < 4 := by omega
        have h4j : (4 : Int) < (n : Int) := by omega
        have mk : ∀ W2, (Instr.makeSlice 45 (.int .i64 4) (.int .i64 4)).run Try.prog W2 = .ok (.slice (some ⟨W2.heap.size, 0, none⟩) 4 4) (W2.alloc (.cells (Array.replicate 4 (.int .u8 0)) 5)) := fun W2 => make_zeros 4 (by omega) W2
        clear hmn hmi
        go_wp2_with fail
        try rw [Exit.noGoto_ret]
        go_ret
        rw [ET.out]
        exact ⟨_, rfl, rowZ w2 4 (by omega), H2.out.ext ((Ext.refl _).alloc _), Keep.ext K2.out ((Ext.refl _).alloc _)⟩
  · have e0 : (se == 0) = false := beq_eq_false_iff_ne.2 h0
    have e1 : (se != 0) = true := by simp [h0]
    have ET : Hid (takeR n ⟨bs, se⟩ = (List.replicate mn 0, ⟨bs, se⟩)) := Lib.hid (by unfold takeR; rw [if_neg h0, MN.out])
    clear h0
    go_enter Try.func45, Try.ntmps45
    go_wp2_with fail
    refine wp_scope_jumps 0 (fun a' w' => w' = w ∧ ∃ u : Nat → Value, a' = { tmps := #[.pointer (some ⟨g, 0, none⟩), .int .i64 (n : Int), u 2, u 3, u 4, u 5, u 6, u 7, u 8, u 9, u 10, u 11, u 12, u 13, u 14, u 15, u 16, u 17, u 18, u 19, u 20, u 21, u 22, u 23, u 24, u 25, u 26, u 27, u 28, u 29, u 30, u 31, u 32, u 33, u 34, u 35, u 36, u 37, u 38], defers := [] }) (fun _ _ => 0) rfl ?_ ?_
    · go_wp2_with fail
      go_step3
      exact ⟨rfl, rfl, fun q => ({ tmps := #[.pointer (some ⟨g, 0, none⟩), .int .i64 (n : Int), undef, undef, .slice none 0 0, undef, .pointer (some ⟨g, 0, none⟩), .pointer (some ⟨g, 0, none⟩), .pointer (some ⟨g, 1, none⟩), .int .i64 se, .bool true, undef, undef, undef, undef, undef, undef, undef, undef, undef, undef, undef, undef, undef, undef, undef, undef, undef, undef, undef, undef, undef, undef, undef, undef, undef, undef, undef, undef], defers := [] } : Act).tmps.getD q undef, rfl⟩
    · rintro a' w' ⟨rfl, u, rfl⟩
      rcases Nat.lt_trichotomy n 4 with h4 | h4 | h4
      · obtain rfl : mn = n := by omega
        have h4i : (mn : Int) < 4 := by omega
        have mk := make_zeros mn (by omega)
        clear hmn hmi
        go_wp2_with fail
        try simp only [Exit.jump]
        go_ret
        rw [ET.out]
        exact ⟨_, rfl, rowZ w' mn (by omega), HH.out.ext ((Ext.refl _).alloc _), Keep.ext (Keep.refl _ _) ((Ext.refl _).alloc _)⟩
      · obtain rfl : n = 4 := h4
        obtain rfl : mn = 4 := by omega
        have mk : ∀ W2, (Instr.makeSlice 45 (.int .i64 4) (.int .i64 4)).run Try.prog W2 = .ok (.slice (some ⟨W2.heap.size, 0, none⟩) 4 4) (W2.alloc (.cells (Array.replicate 4 (.int .u8 0)) 5)) := fun W2 => make_zeros 4 (by omega) W2
        have mk2 := make_zeros 4 (by omega)
        clear hmn hmi
        go_wp2_with fail
        try simp only [Exit.jump]
        go_ret
        rw [ET.out]
        exact ⟨_, rfl, rowZ w' 4 (by omega), HH.out.ext ((Ext.refl _).alloc _), Keep.ext (Keep.refl _ _) ((Ext.refl _).alloc _)⟩
      · obtain rfl : mn = 4 := by omega
        have h4i : ¬ (n : Int) < 4 := by omega
        have h4j : (4 : Int) < (n : Int) := by omega
        have mk : ∀ W2, (Instr.makeSlice 45 (.int .i64 4) (.int .i64 4)).run Try.prog W2 = .ok (.slice (some ⟨W2.heap.size, 0, none⟩) 4 4) (W2.alloc (.cells (Array.replicate 4 (.int .u8 0)) 5)) := fun W2 => make_zeros 4 (by omega) W2
        clear hmn hmi
        go_wp2_with fail
        try simp only [Exit.jump]
        go_ret
        rw [ET.out]
        exact ⟨_, rfl, rowZ w' 4 (by omega), HH.out.ext ((Ext.refl _).alloc _), Keep.ext (Keep.refl _ _) ((Ext.refl _).alloc _)⟩
end
end Go.Proofs.Ytadhkmplhgcgkaa.World
