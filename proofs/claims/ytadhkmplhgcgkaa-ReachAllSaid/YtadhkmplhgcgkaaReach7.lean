/-
  reach.Strong, reach.All.
-/
import Derived.Test.YtadhkmplhgcgkaaReach6
namespace Go.Proofs.Ytadhkmplhgcgkaa.World
open Go.RowKit Go.Proofs.Ytadhkmplhgcgkaa.Plain
set_option linter.unusedVariables false
attribute [local go_sem ↓] Go.wp_at_zero Go.wp_at_succ
/-- what a walk answers -/
structure WalkP (w0 : World) (W : PW) (weak : Bool) (v : Value) (w' : World) : Prop where
  no : checkB W = false → v = .slice none 0 0
  yes : checkB W = true → ∃ l g, v = .slice (some ⟨g, 0, none⟩) W.L.length W.L.length ∧ RchL W.L.length (nxW W weak) (rootsOf W.R) l ∧ Blk w' g 4 (l.map Value.bool).toArray ∧ w0.heap.size ≤ g
theorem WalkP.base {w0 w1 w' : World} {W : PW} {weak : Bool} {v : Value} (h : WalkP w1 W weak v w') (x : w0.heap.size ≤ w1.heap.size) : WalkP w0 W weak v w' := ⟨h.no, fun hc => by obtain ⟨l, g, a, b, c, d⟩ := h.yes hc; exact ⟨l, g, a, b, c, by omega⟩⟩
theorem WalkP.ext {w0 w' w2 : World} {W : PW} {weak : Bool} {v : Value} (h : WalkP w0 W weak v w') (x : Ext w' w2) : WalkP w0 W weak v w2 := ⟨h.no, fun hc => by obtain ⟨l, g, a, b, c, d⟩ := h.yes hc; exact ⟨l, g, a, b, c.ext x, d⟩⟩
set_option maxRecDepth 100000 in
set_option maxHeartbeats 1000000 in
theorem strong_ {w : World} {x : WV} {W : PW} (h : WorldAt w x W) : Calls Try.prog 12 #[.agg (cellsW W x)] w fun e w' => ∃ v, e = .returned v ∧ WalkP w W false v w' ∧ Ext w w' := by
  have C := Lib.hid (fun W2 (e : Ext w W2) => walk_ (h.ext e) false)
  obtain ⟨vL, fs, vD, vRe, vWa, vDu, vSn⟩ := x
  clear h
  unfold cellsW at *
  go_enter Try.func12, Try.ntmps12
  have XX := Lib.hid ((Ext.refl w).alloc (.cells #[vL, vD, .int .i64 W.last, .int .i64 W.R.proc, .int .i64 W.R.frame, vRe, vWa, vDu, .string W.R.out, .string W.R.inp, .int .i64 W.R.how, .int .i64 W.R.exit, vSn] 31))
  go_wp2_with fail
  refine (C.out _ XX.out).mono ?_
  rintro e w2 ⟨v, rfl, a1, a2, x2⟩
  have P := Lib.hid (show WalkP w W false v w2 ∧ Ext w w2 from ⟨WalkP.base ⟨a1, a2⟩ XX.out.below.size, XX.out.trans x2⟩)
  clear a1 a2 x2 C XX
  go_wp2_with fail
  go_ret
  exact ⟨v, rfl, P.out⟩
set_option maxRecDepth 100000 in
set_option maxHeartbeats 1000000 in
theorem all_ {w : World} {x : WV} {W : PW} (h : WorldAt w x W) : Calls Try.prog 13 #[.agg (cellsW W x)] w fun e w' => ∃ v, e = .returned v ∧ WalkP w W true v w' ∧ Ext w w' := by
  have C := Lib.hid (fun W2 (e : Ext w W2) => walk_ (h.ext e) true)
  obtain ⟨vL, fs, vD, vRe, vWa, vDu, vSn⟩ := x
  clear h
  unfold cellsW at *
  go_enter Try.func13, Try.ntmps13
  have XX := Lib.hid ((Ext.refl w).alloc (.cells #[vL, vD, .int .i64 W.last, .int .i64 W.R.proc, .int .i64 W.R.frame, vRe, vWa, vDu, .string W.R.out, .string W.R.inp, .int .i64 W.R.how, .int .i64 W.R.exit, vSn] 31))
  go_wp2_with fail
  refine (C.out _ XX.out).mono ?_
  rintro e w2 ⟨v, rfl, a1, a2, x2⟩
  have P := Lib.hid (show WalkP w W true v w2 ∧ Ext w w2 from ⟨WalkP.base ⟨a1, a2⟩ XX.out.below.size, XX.out.trans x2⟩)
  clear a1 a2 x2 C XX
  go_wp2_with fail
  go_ret
  exact ⟨v, rfl, P.out⟩
end Go.Proofs.Ytadhkmplhgcgkaa.World
