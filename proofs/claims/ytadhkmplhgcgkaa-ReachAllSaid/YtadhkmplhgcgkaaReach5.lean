/-
  reach.Roots: the roots of a world that may be.
-/
import Derived.Test.YtadhkmplhgcgkaaReach4
import Derived.Test.YtadhkmplhgcgkaaImage7
namespace Go.Proofs.Ytadhkmplhgcgkaa.World
open Go.RowKit Go.Proofs.Ytadhkmplhgcgkaa.Plain
set_option linter.unusedVariables false
attribute [local go_sem ↓] Go.wp_at_zero Go.wp_at_succ
set_option maxRecDepth 100000 in
set_option maxHeartbeats 4000000 in
theorem Roots_ {w : World} {x : WV} {W : PW} (h : WorldAt w x W) (hlen : checkB W = true → 2 + W.R.ready.length + 2 * W.R.wait.length + W.R.due.length < 900000) :
    Calls Try.prog 25 #[.agg (cellsW W x)] w fun e w' => ∃ v, e = .returned v ∧ OwnI w' w.heap.size v (if checkB W then rootsOf W.R else []) ∧ Ext w w' := by
  have C := Lib.hid (fun W2 (e : Ext w W2) => check (W := W) (h.ext e))
  have D := Lib.hid (fun W2 (e : Ext w W2) (hc : checkB W = true) => roots_ (W := W) (h.ext e) (hlen hc))
  obtain ⟨vL, fs, vD, vRe, vWa, vDu, vSn⟩ := x
  clear h hlen
  generalize checkB W = bb at *
  unfold cellsW at *
  go_enter Try.func25, Try.ntmps25
  have XX := Lib.hid ((Ext.refl w).alloc (.cells #[vL, vD, .int .i64 W.last, .int .i64 W.R.proc, .int .i64 W.R.frame, vRe, vWa, vDu, .string W.R.out, .string W.R.inp, .int .i64 W.R.how, .int .i64 W.R.exit, vSn] 31))
  have BB := Lib.hid (Blk.new w 31 #[vL, vD, .int .i64 W.last, .int .i64 W.R.proc, .int .i64 W.R.frame, vRe, vWa, vDu, .string W.R.out, .string W.R.inp, .int .i64 W.R.how, .int .i64 W.R.exit, vSn])
  go_wp2_with fail
  refine (C.out _ XX.out).mono ?_
  rintro e w2 ⟨rfl, x2⟩
  obtain ⟨q2, f2, lt2⟩ := (BB.out.ext x2).rules
  have X2 := Lib.hid (XX.out.trans x2)
  clear x2
  cases bb with
  | false =>
    go_wp2_with fail
    go_ret
    exact ⟨_, rfl, OwnI.nil _ _, X2.out⟩
  | true =>
    have E := Lib.hid (D.out w2 X2.out rfl)
    go_wp2_with fail
    refine E.out.mono ?_
    rintro e w3 ⟨v, rfl, o, x3⟩
    have X3 := Lib.hid x3
    have O3 := Lib.hid o
    clear o x3
    go_wp2_with fail
    go_ret
    exact ⟨_, rfl, O3.out.base X2.out.below.size, X2.out.trans X3.out⟩
end Go.Proofs.Ytadhkmplhgcgkaa.World
