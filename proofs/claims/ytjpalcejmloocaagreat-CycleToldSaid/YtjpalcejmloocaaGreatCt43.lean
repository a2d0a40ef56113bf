/-
  Mem7, as one text (a claim has at most 60 files).
-/
import Derived.Test.YtjpalcejmloocaaGreatCt35
namespace Go.Proofs.YtjpalcejmloocaaGreat.World
open Go.RowKit Go.Proofs.YtjpalcejmloocaaGreat.Plain
set_option linter.unusedVariables false
attribute [local go_sem ↓] Go.wp_at_zero Go.wp_at_succ
section
variable {w w' w2 : World} {F F' F2 : Nat → Prop} {m : Nat} {S S' : MS} {X : MX}
/-- a world that was just made -/
def newS (W : PW) (most : Int) : MS := ⟨W.L, List.replicate W.L.length false, List.replicate W.L.length 0, W.last, W.R, 0, [], (Grey.clampM most).toNat, false, [], false⟩
def fromF (w w' : World) : Nat → Prop := fun k => w.heap.size ≤ k ∧ k < w'.heap.size
set_option maxRecDepth 100000 in
set_option maxHeartbeats 2000000 in
/-- things in new memory (from b on), registers that can be read -/
theorem memnew {b : Nat} {W : PW} {most : Int} {re wa du sn : Value} (hb : b ≤ w.heap.size) (hts : ∀ F : Nat → Prop, (∀ k, b ≤ k → k < w.heap.size → F k) → TsAt w F (newS W most) X) (hw : (newS W most).Wf)
    (h1 : Row w re W.R.ready.length 1 (cI W.R.ready)) (h2 : Row w wa W.R.wait.length 2 (cWs W.R.wait)) (h3 : Row w du W.R.due.length 1 (cI W.R.due)) (h4 : Row w sn W.R.snaps.length 1 (cS W.R.snaps)) (m1 : W.R.ready.length ≤ 1000000) (m2 : W.R.wait.length ≤ 1000000) (m3 : W.R.due.length ≤ 1000000) (m4 : W.R.snaps.length ≤ 1000000) :
    Calls Tryz.prog 22 #[.iface 70 (.pointer (some ⟨X.bt, 0, none⟩)), .agg (cellsR W.R re wa du sn), .int .i64 W.last, .int .i64 most] w fun e w' => ∃ m F, e = .returned (.pointer (some ⟨m, 0, none⟩)) ∧ M w' F m (newS W most) ∧ (∀ k, F k → b ≤ k) ∧ Ext w w' := by
  have C1 := Lib.hid (fun W1 [x : IsExt w W1] => cregs (R := W.R) (h1.ext x.out) (h2.ext x.out) (h3.ext x.out) (h4.ext x.out) m1 m2 m3 m4)
  have C2 := Lib.hid (fun W1 => Grey.new_stk W1 most)
  have HT := Lib.hid hts
  have HW := Lib.hid hw
  clear h1 h2 h3 h4 hts hw
  have HB := Lib.hid hb
  clear hb
  unfold cellsR at *
  go_enter Tryz.func22, Tryz.ntmps22
  go_wp2_with fail
  refine (C1.out _).mono ?_
  rintro e w1 ⟨⟨re', wa', du', sn', rfl, RN⟩, x1⟩
  have hx1 : IsExt w w1 := ⟨Ext.trans ((Ext.refl w).alloc _) x1⟩
  have RN' := Lib.hid RN
  clear RN x1 C1
  go_wp2_with fail
  refine (C2.out _).mono ?_
  clear C2
  rintro e w3 ⟨rfl, st, x3⟩
  have hx3 : IsExt w w3 := ⟨hx1.out.trans x3⟩
  have ST := Lib.hid st
  have X3 := Lib.hid x3
  clear st x3
  go_wp2_with fail
  go_ret
  have x4 : Ext w3 (w3.alloc (.cells (cellsM (newS W most) { X with sb := w1.heap.size, re := re', wa := wa', du := du', sn := sn', li := .slice none 0 0 }) 56)) := (Ext.refl w3).alloc _
  have sz4 : ∀ o : Obj, (w3.alloc o).heap.size = w3.heap.size + 1 := fun o => Array.size_push ..
  have z1 : w.heap.size ≤ w1.heap.size := hx1.out.below.size
  have z3 : w1.heap.size < w3.heap.size := ST.out.lt
  have hb := HB.out
  have RN := RN'.out
  have lo : ∀ {v : Value} {n sz : Nat} {t : TypeId} {c : Nat → Nat → Value}, Own w1 (w.alloc (.cells #[.int .i64 W.R.proc, .int .i64 W.R.frame, re, wa, du, .string W.R.out, .string W.R.inp, .int .i64 W.R.how, .int .i64 W.R.exit, sn] 29)).heap.size t v n sz c → ∀ g, v.ownBlock = some g → w.heap.size < g ∧ g < w1.heap.size := fun o g hg => by
    obtain ⟨h1, cs, h2⟩ := o.block hg
    have e : (w.alloc (.cells #[.int .i64 W.R.proc, .int .i64 W.R.frame, re, wa, du, .string W.R.out, .string W.R.inp, .int .i64 W.R.how, .int .i64 W.R.exit, sn] 29)).heap.size = w.heap.size + 1 := Array.size_push ..
    exact ⟨by omega, h2.lt⟩
  have T := HT.out (fun k => b ≤ k ∧ k < w3.heap.size + 1) (fun k h1 h2 => ⟨h1, by omega⟩)
  have vcl : ∀ g, X.vc.ownBlock = some g → g < w.heap.size := fun g hg => by obtain ⟨_, cs, h2⟩ := T.col.block hg; exact h2.lt
  have T4 := T.ext (hx3.out.trans x4)
  refine ⟨w3.heap.size, fun k => b ≤ k ∧ k < w3.heap.size + 1, rfl, ⟨{ X with sb := w1.heap.size, re := re', wa := wa', du := du', sn := sn', li := .slice none 0 0 }, ?_⟩, fun k h => h.1, hx3.out.trans x4⟩
  refine ⟨⟨T4.bt, T4.bF, T4.L, T4.LF, T4.fs, T4.fF, T4.ap, T4.dead, T4.dF, T4.col, T4.colF⟩, Blk.new w3 _ _, ⟨by omega, by omega⟩, fun k h => by rw [sz4]; exact h.2, HW.out, ?_, ?_, ?_, (ST.out.ext x4), ⟨(show b ≤ w1.heap.size by omega), (show w1.heap.size < w3.heap.size + 1 by omega)⟩, ?_, ?_, ?_⟩
  · have r := (RN.ext X3.out).ext x4
    exact r.base (by omega)
  · exact ⟨fun g hg => by have := lo RN.re g hg; exact ⟨by omega, by omega⟩, fun g hg => by have := lo RN.wa g hg; exact ⟨by omega, by omega⟩, fun g hg => by have := lo RN.du g hg; exact ⟨by omega, by omega⟩, fun g hg => by have := lo RN.sn g hg; exact ⟨by omega, by omega⟩⟩
  · exact ⟨fun g h1 h2 => by have := vcl g h1; have := lo RN.re g h2; omega, fun g h1 h2 => by have := vcl g h1; have := lo RN.du g h2; omega⟩
  · exact ⟨none, 0, rfl, Nat.le_refl _, by omega, fun i hi => absurd hi (Nat.not_lt_zero _)⟩
  · refine ⟨fun g h => ?_, fun g _ h => ?_, fun g _ h => ?_, fun g _ h => ?_⟩ <;> exact absurd h (by simp [Value.ownBlock])
  · intro g h
    exact absurd h (by simp [Value.ownBlock])
end
end Go.Proofs.YtjpalcejmloocaaGreat.World
