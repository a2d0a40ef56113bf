/-
  Contracts of package header and of its reference.
-/
import Derived.Test.YtjpalcejmloocaaRows
import Derived.Test.YtjpalcejmloocaaHeaderPlain
import Derived.Test.YtjpalcejmloocaaExt
import Derived.WalkKit
import Derived.WalkSmall
import Derived.Deep.QuietTactic
import Derived.BigQuiet
import Derived.Lib.Hide
namespace Go.Proofs.Ytjpalcejmloocaa.Header
open Go.RowKit Go.Proofs.Ytjpalcejmloocaa.Plain
set_option linter.unusedVariables false

def pw (n : Int) : Int := if n = 22 then 4194304 else 8388608
theorem bit (b : Bool) (n : Int) (h : n = 22 ∨ n = 23) (w : World) : Calls Try.prog 55 #[.bool b, .int .i64 n] w fun e w' => e = .returned (.int .u32 (bitN b * pw n)) ∧ w' = w := by
  rcases h with rfl | rfl
  all_goals cases b
  all_goals
    go_enter Try.func55, Try.ntmps55
    go_wp2
    go_ret
    exact ⟨rfl, rfl⟩
set_option maxHeartbeats 1000000 in
theorem put (s f o c : Int) (fi li : Bool) (w : World) : Calls Try.prog 30 #[.agg #[.int .i64 s, .int .i64 f, .int .i64 o, .int .i64 c, .bool fi, .bool li]] w fun e w' => e = .returned (.int .u32 (putN s f o c fi li)) ∧ Ext w w' := by
  go_enter Try.func30, Try.ntmps30
  go_wp2
  go_quiet ((go_at_call 55; exact Calls.quiet_of_same (bit _ _ (by omega) _)))
  go_wp2
  go_ret
  exact ⟨ret_int (put_value s f o c fi li), ((Ext.refl _).alloc _).drewN _⟩
set_option maxHeartbeats 1000000 in
theorem get (v : Int) (w : World) (h0 : 0 ≤ v) (h1 : v < 4294967296) : Calls Try.prog 60 #[.int .u32 v] w fun e w' => e = .returned (.agg #[.int .i64 (gotS v), .int .i64 (gotF v), .int .i64 (gotO v), .int .i64 (gotC v), .bool (gotI v), .bool (gotL v)]) ∧ Ext w w' := by
  have e1 := Lib.hid (get_s v h0 h1)
  have e2 := Lib.hid (get_f v h0 h1)
  have e3 := Lib.hid (get_o v h0 h1)
  have e4 := Lib.hid (get_c v h0 h1)
  have e5 := Lib.hid (get_i v h0 h1)
  have e6 := Lib.hid (get_l v h0 h1)
  go_enter Try.func60, Try.ntmps60
  go_wp2
  refine bodyPost_ret (v := .agg #[.int .i64 (gotS v), .int .i64 (gotF v), .int .i64 (gotO v), .int .i64 (gotC v), .bool (gotI v), .bool (gotL v)]) ?_ rfl ⟨rfl, (Ext.refl _).alloc _⟩
  rw [← e1.out, ← e2.out, ← e3.out, ← e4.out, ← e5.out, ← e6.out]
  simp [results, Try.results60, go_sem]
end Go.Proofs.Ytjpalcejmloocaa.Header
