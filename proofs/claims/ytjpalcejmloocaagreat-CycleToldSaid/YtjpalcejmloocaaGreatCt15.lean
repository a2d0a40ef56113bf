/-
  Mem, as one text (a claim has at most 60 files).
-/
import Derived.Test.YtjpalcejmloocaaGreatCt12
import Derived.Test.YtjpalcejmloocaaGreatCt13
import Derived.Test.YtjpalcejmloocaaGreatCt14
namespace Go.Proofs.YtjpalcejmloocaaGreat.World
open Go.RowKit Go.Proofs.YtjpalcejmloocaaGreat.Plain
set_option linter.unusedVariables false
attribute [local go_sem ↓] Go.wp_at_zero Go.wp_at_succ

attribute [go_sem] ext_ext
/-- a later world: by search -/
class IsExt (w w' : World) : Prop where
  out : Ext w w'
instance IsExt.refl (w : World) : IsExt w w := ⟨Ext.refl w⟩
instance IsExt.alloc (w w' : World) (o : Obj) [h : IsExt w w'] : IsExt w (w'.alloc o) := ⟨h.out.alloc o⟩
instance IsExt.drew (w w' : World) [h : IsExt w w'] : IsExt w w'.drew := ⟨h.out.drew⟩
instance IsExt.drewN (w w' : World) (n : Nat) [h : IsExt w w'] : IsExt w (w'.drewN n) := ⟨h.out.drewN n⟩
instance IsExt.ext (w w' : World) (x : More) [h : IsExt w w'] : IsExt w (Plain.ext w' x) := ⟨h.out.ext x⟩
theorem is_ext (w w' : World) [h : IsExt w w'] : Ext w w' := h.out
/-- as wp_region_ext, from a later world -/
theorem wp_region_from {P : Program} {id : Nat} {Q : Exit → Act → World → Prop} {a : Act} {w0 w : World} {l : List Oper} (hx : Ext w0 w) (hm : P.follows .mixedOrders = true) (hB : Region.lexB .any l.toArray = true)
    (h : wpQuiet P l.toArray (fun w' => ∃ x, w' = Plain.ext w0 x) (fun a' => ∀ w', (∃ x, w' = Plain.ext w0 x) → Q .normal a' w') l a) : (Code.region id l.toArray true).wp P Q a w :=
  wp_region_quiet (C := fun w' => ∃ x, w' = Plain.ext w0 x) hm hB hx.drew (by simpa using h)
structure MX where
  bt : Nat
  sb : Nat
  vl : Value
  vd : Value
  vc : Value
  fs : Nat → Value
  re : Value
  wa : Value
  du : Value
  sn : Value
  li : Value
def cellsM (S : MS) (X : MX) : Array Value := #[.iface 70 (.pointer (some ⟨X.bt, 0, none⟩)), .int .i64 S.R.proc, .int .i64 S.R.frame, X.re, X.wa, X.du, .string S.R.out, .string S.R.inp, .int .i64 S.R.how, .int .i64 S.R.exit, X.sn, .int .i64 S.last, .int .i64 S.phase, .pointer (some ⟨X.sb, 0, none⟩), X.li, .bool S.short]
/-- a slice's block is among those of F -/
def InF (F : Nat → Prop) (v : Value) : Prop := ∀ k, v.ownBlock = some k → F k
/-- the things lie in memory, in blocks of F -/
structure TsAt (w : World) (F : Nat → Prop) (S : MS) (X : MX) : Prop where
  bt : Blk w X.bt 72 #[X.vl, X.vd, X.vc]
  bF : F X.bt
  L : Own w 0 49 X.vl S.L.length 6 (cL S.L X.fs)
  LF : InF F X.vl
  fs : ∀ i, i < S.L.length → Own w 0 38 (X.fs i) (tAt S.L i).F.length 2 (cF (tAt S.L i).F)
  fF : ∀ i, i < S.L.length → InF F (X.fs i)
  ap : ∀ i j, i < S.L.length → j < i → Apart (X.fs i) (X.fs j)
  dead : Own w 0 4 X.vd S.dead.length 1 (cB S.dead)
  dF : InF F X.vd
  col : Own w 0 3 X.vc S.col.length 1 (cI S.col)
  colF : InF F X.vc
/-- the type of a slice's block -/
def Typ (w : World) (v : Value) (t : TypeId) : Prop := ∀ k, v.ownBlock = some k → ∃ cs, Blk w k t cs
/-- a world that is turned lies in memory, in blocks of F -/
structure MemAt (w : World) (F : Nat → Prop) (m : Nat) (S : MS) (X : MX) : Prop where
  ts : TsAt w F S X
  bm : Blk w m 56 (cellsM S X)
  mF : F m
  lt : ∀ k, F k → k < w.heap.size
  wf : S.Wf
  R : RegsNew w 0 S.R X.re X.wa X.du X.sn
  rF : InF F X.re ∧ InF F X.wa ∧ InF F X.du ∧ InF F X.sn
  ac : Apart X.vc X.re ∧ Apart X.vc X.du
  st : Grey.Stk w X.sb S.stk S.most S.over
  sF : F X.sb
  li : IntsAt w X.li S.lst
  lF : InF F X.li ∧ Apart X.vc X.li ∧ Apart X.re X.li ∧ Apart X.du X.li
  lT : Typ w X.li 3
/-- what has turned lies in F -/
structure Mov (F F' : Nat → Prop) (w w' : World) : Prop where
  keep : Keep F w w'
  new : ∀ k, F' k → F k ∨ w.heap.size ≤ k
/-! ### the methods through the interface -/
theorem meth_Has (n : Nat) (a : Addr) (w : World) : (method (n + 1) 70 (.pointer (some a)) "Has").run Tryz.prog w = .ok (174, .pointer (some a)) w := by kernel_rfl
theorem meth_Fmt (n : Nat) (a : Addr) (w : World) : (method (n + 1) 70 (.pointer (some a)) "Fmt").run Tryz.prog w = .ok (173, .pointer (some a)) w := by kernel_rfl
theorem meth_Size (n : Nat) (a : Addr) (w : World) : (method (n + 1) 70 (.pointer (some a)) "Size").run Tryz.prog w = .ok (184, .pointer (some a)) w := by kernel_rfl
theorem meth_Class (n : Nat) (a : Addr) (w : World) : (method (n + 1) 70 (.pointer (some a)) "Class").run Tryz.prog w = .ok (169, .pointer (some a)) w := by kernel_rfl
theorem meth_Field (n : Nat) (a : Addr) (w : World) : (method (n + 1) 70 (.pointer (some a)) "Field").run Tryz.prog w = .ok (171, .pointer (some a)) w := by kernel_rfl
theorem meth_Special (n : Nat) (a : Addr) (w : World) : (method (n + 1) 70 (.pointer (some a)) "Special").run Tryz.prog w = .ok (185, .pointer (some a)) w := by kernel_rfl
theorem meth_Put (n : Nat) (a : Addr) (w : World) : (method (n + 1) 70 (.pointer (some a)) "Put").run Tryz.prog w = .ok (181, .pointer (some a)) w := by kernel_rfl
theorem meth_New (n : Nat) (a : Addr) (w : World) : (method (n + 1) 70 (.pointer (some a)) "New").run Tryz.prog w = .ok (178, .pointer (some a)) w := by kernel_rfl
theorem nila_New (n : Nat) (a : Addr) (w : World) : (nilAhead (n + 1) 70 (.pointer (some a)) "New").run Tryz.prog w = .ok (some false) w := by kernel_rfl
attribute [go_sem] meth_Has meth_Fmt meth_Size meth_Class meth_Field meth_Special meth_Put meth_New nila_New
theorem meth_Hash (n : Nat) (a : Addr) (w : World) : (method (n + 1) 70 (.pointer (some a)) "Hash").run Tryz.prog w = .ok (175, .pointer (some a)) w := by kernel_rfl
attribute [go_sem] meth_Hash
theorem meth_Byte (n : Nat) (a : Addr) (w : World) : (method (n + 1) 70 (.pointer (some a)) "Byte").run Tryz.prog w = .ok (168, .pointer (some a)) w := by kernel_rfl
attribute [go_sem] meth_Byte
theorem meth_SetByte (n : Nat) (a : Addr) (w : World) : (method (n + 1) 70 (.pointer (some a)) "SetByte").run Tryz.prog w = .ok (182, .pointer (some a)) w := by kernel_rfl
attribute [go_sem] meth_SetByte
theorem meth_Final (n : Nat) (a : Addr) (w : World) : (method (n + 1) 70 (.pointer (some a)) "Final").run Tryz.prog w = .ok (172, .pointer (some a)) w := by kernel_rfl
attribute [go_sem] meth_Final
theorem meth_SetFinal (n : Nat) (a : Addr) (w : World) : (method (n + 1) 70 (.pointer (some a)) "SetFinal").run Tryz.prog w = .ok (183, .pointer (some a)) w := by kernel_rfl
attribute [go_sem] meth_SetFinal
theorem meth_Len (n : Nat) (a : Addr) (w : World) : (method (n + 1) 70 (.pointer (some a)) "Len").run Tryz.prog w = .ok (177, .pointer (some a)) w := by kernel_rfl
attribute [go_sem] meth_Len
theorem meth_Colour (n : Nat) (a : Addr) (w : World) : (method (n + 1) 70 (.pointer (some a)) "Colour").run Tryz.prog w = .ok (170, .pointer (some a)) w := by kernel_rfl
attribute [go_sem] meth_Colour
theorem meth_Paint (n : Nat) (a : Addr) (w : World) : (method (n + 1) 70 (.pointer (some a)) "Paint").run Tryz.prog w = .ok (179, .pointer (some a)) w := by kernel_rfl
attribute [go_sem] meth_Paint
theorem meth_Places (n : Nat) (a : Addr) (w : World) : (method (n + 1) 70 (.pointer (some a)) "Places").run Tryz.prog w = .ok (180, .pointer (some a)) w := by kernel_rfl
attribute [go_sem] meth_Places
theorem meth_Kill (n : Nat) (a : Addr) (w : World) : (method (n + 1) 70 (.pointer (some a)) "Kill").run Tryz.prog w = .ok (176, .pointer (some a)) w := by kernel_rfl
attribute [go_sem] meth_Kill
theorem meth_Sweep (n : Nat) (a : Addr) (w : World) : (method (n + 1) 70 (.pointer (some a)) "Sweep").run Tryz.prog w = .ok (187, .pointer (some a)) w := by kernel_rfl
attribute [go_sem] meth_Sweep
theorem meth_World (n : Nat) (a : Addr) (w : World) : (method (n + 1) 70 (.pointer (some a)) "World").run Tryz.prog w = .ok (188, .pointer (some a)) w := by kernel_rfl
attribute [go_sem] meth_World
theorem meth_Swap (n : Nat) (a : Addr) (w : World) : (method (n + 1) 70 (.pointer (some a)) "Swap").run Tryz.prog w = .ok (186, .pointer (some a)) w := by kernel_rfl
attribute [go_sem] meth_Swap
section
variable {w w' w2 : World} {F F' F2 : Nat → Prop} {m : Nat} {S S' : MS} {X : MX}
theorem Typ.ext {v : Value} {t : TypeId} (h : Typ w v t) (x : Ext w w') : Typ w' v t := fun k hk => by obtain ⟨cs, b⟩ := h k hk; exact ⟨cs, b.ext x⟩
theorem TsAt.ext (h : TsAt w F S X) (x : Ext w w') : TsAt w' F S X :=
  ⟨h.bt.ext x, h.bF, h.L.ext x, h.LF, fun i hi => (h.fs i hi).ext x, h.fF, h.ap, h.dead.ext x, h.dF, h.col.ext x, h.colF⟩
theorem MemAt.ext (h : MemAt w F m S X) (x : Ext w w') : MemAt w' F m S X :=
  ⟨h.ts.ext x, h.bm.ext x, h.mF, fun k hk => Nat.lt_of_lt_of_le (h.lt k hk) x.below.size, h.wf, h.R.ext x, h.rF, h.ac, h.st.ext x, h.sF, h.li.ext x, h.lF, h.lT.ext x⟩
theorem Mov.of_ext (x : Ext w w') : Mov F F w w' := ⟨Keep.of_ext x F, fun k h => .inl h⟩
theorem Mov.trans (h : Mov F F' w w') (k : Mov F' F2 w' w2) : Mov F F2 w w2 := by
  refine ⟨⟨k.keep.os.trans h.keep.os, k.keep.tape.trans h.keep.tape, k.keep.output.trans h.keep.output, Nat.le_trans h.keep.size k.keep.size, fun i hi hn => ?_⟩, fun i hi => ?_⟩
  · refine (k.keep.block i (Nat.lt_of_lt_of_le hi h.keep.size) (fun hf => ?_)).trans (h.keep.block i hi hn)
    rcases h.new i hf with h1 | h1
    · exact hn h1
    · omega
  · rcases k.new i hi with h1 | h1
    · exact h.new i h1
    · have := h.keep.size; exact .inr (by omega)
theorem Mov.ext (h : Mov F F' w w') (x : Ext w' w2) : Mov F F' w w2 := h.trans (.of_ext x)
theorem Mov.after (x : Ext w w') (h : Mov F F' w' w2) : Mov F F' w w2 := (Mov.of_ext x).trans h
theorem Mov.blk {g : Nat} {t : TypeId} {cs : Array Value} (v : Mov F F' w w') (h : Blk w g t cs) (hn : ¬ F g) : Blk w' g t cs ∧ ¬ F' g := by
  refine ⟨h.keep v.keep hn, fun hf => ?_⟩
  rcases v.new g hf with h1 | h1
  · exact hn h1
  · have := h.lt; omega
/-- a world that is turned: in memory -/
def M (w : World) (F : Nat → Prop) (m : Nat) (S : MS) : Prop := ∃ X, MemAt w F m S X
theorem M.ext (h : M w F m S) (x : Ext w w') : M w' F m S := by obtain ⟨X, h⟩ := h; exact ⟨X, h.ext x⟩
theorem M.wf (h : M w F m S) : S.Wf := by obtain ⟨X, h⟩ := h; exact h.wf
theorem M.lt (h : M w F m S) : ∀ k, F k → k < w.heap.size := by obtain ⟨X, h⟩ := h; exact h.lt
/-- what becomes of it -/
def Goes (F : Nat → Prop) (m : Nat) (S' : MS) (w w' : World) : Prop := ∃ F', M w' F' m S' ∧ Mov F F' w w'
theorem Goes.same (h : M w F m S) (x : Ext w w') : Goes F m S w w' := ⟨F, h.ext x, .of_ext x⟩
theorem Goes.after (x : Ext w w') (h : Goes F m S w' w2) : Goes F m S w w2 := by obtain ⟨F', h1, h2⟩ := h; exact ⟨F', h1, h2.after x⟩
theorem Goes.ext (h : Goes F m S w w') (x : Ext w' w2) : Goes F m S w w2 := by obtain ⟨F', h1, h2⟩ := h; exact ⟨F', h1.ext x, h2.ext x⟩
theorem Own.lt {b : Nat} {e : TypeId} {v : Value} {n sz : Nat} {c : Nat → Nat → Value} (h : Own w b e v n sz c) (i : Nat) (hi : i < n) : ∃ g cap, v = .slice (some ⟨g, 0, none⟩) n cap ∧ n ≤ cap ∧ cap ≤ 9223372036854775807 ∧ g < w.heap.size ∧ (∀ j, j < sz → w.cell? ⟨g, i * sz + j, none⟩ = some (c i j)) ∧ (∀ j, w.frozen? ⟨g, j, none⟩ = false) ∧ ∃ cs, Blk w g e cs := by
  have h' : w.ownsRow b e sz v n (flat n sz c) := h
  rcases h'.2 with ⟨rfl, h0⟩ | ⟨g, cap, cur, rfl, hb, hg, hn, hcap, hsz, ht⟩
  · omega
  · have hB : Blk w g e cur := hg
    unfold maxLen at hcap
    obtain ⟨b', off', e1, _, hc⟩ := Row.at_ h.row i hi
    injection e1 with e1
    injection e1 with e1 e2
    subst e1 e2
    refine ⟨g, cap, rfl, hn, by omega, hB.lt, fun j hj => ?_, hB.frozen, cur, hB⟩
    have := hc j hj
    rw [Nat.zero_add] at this; exact this
/-! ### the reading methods of package object -/
set_option maxRecDepth 100000 in
set_option maxHeartbeats 1000000 in
theorem thas (h : TsAt w F S X) (wf : S.Wf) (i : Int) : Calls Tryz.prog 174 #[.pointer (some ⟨X.bt, 0, none⟩), .int .i64 i] w fun e w' => e = .returned (.bool (S.has i)) ∧ Ext w w' := by
  obtain ⟨q1, q2, q3⟩ := h.bt.rules
  obtain ⟨AL, cL, eL⟩ := h.L.form
  obtain ⟨AD, cD, eD⟩ := h.dead.form
  have hdl := wf.dead
  have hlen := wf.len
  have hlast := wf.last
  have E : Hid (S.has i = (decide (0 ≤ i ∧ i < S.L.length) && !(S.dead.getD i.toNat false))) := Lib.hid rfl
  rw [eL, eD] at q1
  have HD := h.dead
  rw [eD] at HD
  clear h eL eD wf
  generalize X.bt = g at *
  by_cases h1 : 0 ≤ i
  · by_cases h2 : i < (S.L.length : Int)
    · obtain ⟨k, rfl⟩ := Int.eq_ofNat_of_zero_le h1
      rw [decide_eq_true ⟨h1, h2⟩, Int.toNat_natCast] at E
      obtain ⟨b, cap, e1, _, _, hb, hc, _, _⟩ := HD.lt k (by omega)
      injection e1 with e1 e2 e3
      subst e1
      have c1 : w.cell? ⟨b, k, none⟩ = some (.bool (S.dead.getD k false)) := by
        have := hc 0 (by omega)
        rw [Nat.mul_one] at this; exact this
      have h3 : (k : Int) < (S.dead.length : Int) := by omega
      clear HD hc
      generalize S.dead.getD k false = d at *
      generalize S.L.length = n at *
      generalize S.dead.length = nd at *
      go_enter Tryz.func174, Tryz.ntmps174
      go_wp2
      go_ret
      exact ⟨ret_bool (by rw [E.out]; simp), Ext.refl _⟩
    · rw [decide_eq_false (fun h => h2 h.2), Bool.false_and] at E
      clear HD
      have d2 : (S.L.length : Int) ≤ i := by omega
      generalize S.L.length = n at *
      go_enter Tryz.func174, Tryz.ntmps174
      go_wp2
      go_ret
      exact ⟨ret_bool (by rw [E.out]), Ext.refl _⟩
  · rw [decide_eq_false (fun h => h1 h.1), Bool.false_and] at E
    clear HD
    generalize S.L.length = n at *
    go_enter Tryz.func174, Tryz.ntmps174
    go_wp2
    go_ret
    exact ⟨ret_bool (by rw [E.out]), Ext.refl _⟩
/-- a thing's cells -/
theorem TsAt.thing (h : TsAt w F S X) (k : Nat) (hk : k < S.L.length) : ∃ g cap, X.vl = .slice (some ⟨g, 0, none⟩) S.L.length cap ∧ g < w.heap.size ∧ w.cell? ⟨g, k * 6, none⟩ = some (.int .i64 (tAt S.L k).cls) ∧ w.cell? ⟨g, k * 6 + 1, none⟩ = some (.int .i64 (tAt S.L k).fmt) ∧ w.cell? ⟨g, k * 6 + 2, none⟩ = some (.int .i64 (tAt S.L k).hash) ∧ w.cell? ⟨g, k * 6 + 3, none⟩ = some (.bool (tAt S.L k).fin) ∧ w.cell? ⟨g, k * 6 + 4, none⟩ = some (X.fs k) ∧ w.cell? ⟨g, k * 6 + 5, none⟩ = some (.string (tAt S.L k).B) ∧ (∀ j, w.frozen? ⟨g, j, none⟩ = false) ∧ ∃ cs, Blk w g 49 cs := by
  obtain ⟨g, cap, e, _, _, hg, hc, hf, hb⟩ := h.L.lt k hk
  exact ⟨g, cap, e, hg, hc 0 (by omega), hc 1 (by omega), hc 2 (by omega), hc 3 (by omega), hc 4 (by omega), hc 5 (by omega), hf, hb⟩
set_option maxRecDepth 100000 in
set_option maxHeartbeats 1000000 in
theorem tfmt (h : TsAt w F S X) (wf : S.Wf) (i : Int) : Calls Tryz.prog 173 #[.pointer (some ⟨X.bt, 0, none⟩), .int .i64 i] w fun e w' => e = .returned (.int .i64 (S.fmt i)) ∧ Ext w w' := by
  have E : Hid (S.fmt i = if S.has i then (tAt S.L i.toNat).fmt else 0) := Lib.hid rfl
  have C := Lib.hid (thas h wf i)
  have HH := Lib.hid h
  have hl := @MS.has_lt S i
  clear h
  go_enter Tryz.func173, Tryz.ntmps173
  go_wp2_with fail
  refine C.out.mono ?_
  clear C
  rintro e w2 ⟨rfl, x2⟩
  have h2 := HH.out.ext x2
  cases hb : S.has i with
  | false =>
    rw [hb, if_neg (by decide)] at E
    clear h2 HH hl
    go_wp2
    go_ret
    exact ⟨ret_int (by rw [E.out]), x2⟩
  | true =>
    rw [hb, if_pos rfl] at E
    obtain ⟨g1, g2⟩ := hl hb
    obtain ⟨k, rfl⟩ := Int.eq_ofNat_of_zero_le g1
    rw [Int.toNat_natCast] at E
    obtain ⟨g, cap, e1, hg, c0, c1, c2, c3, c4, c5, _, _⟩ := h2.thing k (by omega)
    obtain ⟨q1, q2, q3⟩ := h2.bt.rules
    rw [e1] at q1
    clear h2 HH e1 hl
    generalize tAt S.L k = t at *
    generalize S.L.length = n at *
    generalize X.bt = bt at *
    generalize X.fs k = fk at *
    have X2 := Lib.hid x2
    clear x2
    go_wp2
    go_ret
    exact ⟨ret_int (by rw [E.out]), X2.out⟩
set_option maxRecDepth 100000 in
set_option maxHeartbeats 1000000 in
theorem tclass (h : TsAt w F S X) (wf : S.Wf) (i : Int) : Calls Tryz.prog 169 #[.pointer (some ⟨X.bt, 0, none⟩), .int .i64 i] w fun e w' => e = .returned (.int .i64 (S.cls i)) ∧ Ext w w' := by
  have E : Hid (S.cls i = if S.has i then (tAt S.L i.toNat).cls else 0) := Lib.hid rfl
  have C := Lib.hid (thas h wf i)
  have HH := Lib.hid h
  have hl := @MS.has_lt S i
  clear h
  go_enter Tryz.func169, Tryz.ntmps169
  go_wp2_with fail
  refine C.out.mono ?_
  clear C
  rintro e w2 ⟨rfl, x2⟩
  have h2 := HH.out.ext x2
  cases hb : S.has i with
  | false =>
    rw [hb, if_neg (by decide)] at E
    clear h2 HH hl
    go_wp2
    go_ret
    exact ⟨ret_int (by rw [E.out]), x2⟩
  | true =>
    rw [hb, if_pos rfl] at E
    obtain ⟨g1, g2⟩ := hl hb
    obtain ⟨k, rfl⟩ := Int.eq_ofNat_of_zero_le g1
    rw [Int.toNat_natCast] at E
    obtain ⟨g, cap, e1, hg, c0, c1, c2, c3, c4, c5, _, _⟩ := h2.thing k (by omega)
    obtain ⟨q1, q2, q3⟩ := h2.bt.rules
    rw [e1] at q1
    clear h2 HH e1 hl
    generalize tAt S.L k = t at *
    generalize S.L.length = n at *
    generalize X.bt = bt at *
    generalize X.fs k = fk at *
    have X2 := Lib.hid x2
    clear x2
    go_wp2
    go_ret
    exact ⟨ret_int (by rw [E.out]), X2.out⟩
set_option maxRecDepth 100000 in
set_option maxHeartbeats 1000000 in
theorem thash (h : TsAt w F S X) (wf : S.Wf) (i : Int) : Calls Tryz.prog 175 #[.pointer (some ⟨X.bt, 0, none⟩), .int .i64 i] w fun e w' => e = .returned (.int .i64 (S.hash i)) ∧ Ext w w' := by
  have E : Hid (S.hash i = if S.has i then (tAt S.L i.toNat).hash else -1) := Lib.hid rfl
  have C := Lib.hid (thas h wf i)
  have HH := Lib.hid h
  have hl := @MS.has_lt S i
  clear h
  go_enter Tryz.func175, Tryz.ntmps175
  go_wp2_with fail
  refine C.out.mono ?_
  clear C
  rintro e w2 ⟨rfl, x2⟩
  have h2 := HH.out.ext x2
  cases hb : S.has i with
  | false =>
    rw [hb, if_neg (by decide)] at E
    clear h2 HH hl
    go_wp2
    go_ret
    exact ⟨ret_int (by rw [E.out]), x2⟩
  | true =>
    rw [hb, if_pos rfl] at E
    obtain ⟨g1, g2⟩ := hl hb
    obtain ⟨k, rfl⟩ := Int.eq_ofNat_of_zero_le g1
    rw [Int.toNat_natCast] at E
    obtain ⟨g, cap, e1, hg, c0, c1, c2, c3, c4, c5, _, _⟩ := h2.thing k (by omega)
    obtain ⟨q1, q2, q3⟩ := h2.bt.rules
    rw [e1] at q1
    clear h2 HH e1 hl
    generalize tAt S.L k = t at *
    generalize S.L.length = n at *
    generalize X.bt = bt at *
    generalize X.fs k = fk at *
    have X2 := Lib.hid x2
    clear x2
    go_wp2
    go_ret
    exact ⟨ret_int (by rw [E.out]), X2.out⟩
set_option maxRecDepth 100000 in
set_option maxHeartbeats 1000000 in
theorem tsize (h : TsAt w F S X) (wf : S.Wf) (i : Int) : Calls Tryz.prog 184 #[.pointer (some ⟨X.bt, 0, none⟩), .int .i64 i] w fun e w' => e = .returned (.int .i64 (S.size i)) ∧ Ext w w' := by
  have E : Hid (S.size i = if S.has i then ((tAt S.L i.toNat).F.length : Int) + ((tAt S.L i.toNat).B.size : Int) else -1) := Lib.hid rfl
  have C := Lib.hid (thas h wf i)
  have HH := Lib.hid h
  have hl := @MS.has_lt S i
  have b1 := wf.nF
  have b2 := wf.nB
  clear h
  go_enter Tryz.func184, Tryz.ntmps184
  go_wp2_with fail
  refine C.out.mono ?_
  clear C
  rintro e w2 ⟨rfl, x2⟩
  have h2 := HH.out.ext x2
  cases hb : S.has i with
  | false =>
    rw [hb, if_neg (by decide)] at E
    clear h2 HH hl b1 b2
    go_wp2
    go_ret
    exact ⟨ret_int (by rw [E.out]), x2⟩
  | true =>
    rw [hb, if_pos rfl] at E
    obtain ⟨g1, g2⟩ := hl hb
    obtain ⟨k, rfl⟩ := Int.eq_ofNat_of_zero_le g1
    rw [Int.toNat_natCast] at E
    have b1 := b1 k (by omega)
    have b2 := b2 k (by omega)
    obtain ⟨g, cap, e1, hg, c0, c1, c2, c3, c4, c5, _, _⟩ := h2.thing k (by omega)
    obtain ⟨q1, q2, q3⟩ := h2.bt.rules
    rw [e1] at q1
    obtain ⟨AF, cF, eF⟩ := (h2.fs k (by omega)).form
    rw [eF] at c4
    clear h2 HH e1 hl eF
    generalize tAt S.L k = t at *
    generalize S.L.length = n at *
    generalize X.bt = bt at *
    generalize t.F.length = nf at *
    have s5 : Hid ((t.B.size : Nat) = (t.B.size : Nat)) := Lib.hid rfl
    have X2 := Lib.hid x2
    clear x2
    go_wp2_with fail
    go_quiet (fail)
    go_wp2
    go_ret
    exact ⟨ret_int (by rw [E.out]), X2.out.drewN _⟩
def val (v : PV) : Value := .agg #[.bool v.obj, .int .i64 v.n]
set_option maxRecDepth 100000 in
set_option maxHeartbeats 1000000 in
theorem tfield (h : TsAt w F S X) (k l : Nat) (hk : k < S.L.length) (hl : l < (tAt S.L k).F.length) (hn : S.L.length ≤ 1000000) (hm : (tAt S.L k).F.length ≤ 1000000) : Calls Tryz.prog 171 #[.pointer (some ⟨X.bt, 0, none⟩), .int .i64 k, .int .i64 l] w fun e w' => e = .returned (val (vAt (tAt S.L k).F l)) ∧ Ext w w' := by
  obtain ⟨g, cap, e1, hg, _, _, _, _, c4, _, _, _⟩ := h.thing k hk
  obtain ⟨q1, q2, q3⟩ := h.bt.rules
  rw [e1] at q1
  obtain ⟨gf, capf, ef, _, _, hgf, hcf, _, _⟩ := (h.fs k hk).lt l hl
  have d0 : w.cell? ⟨gf, l * 2, none⟩ = some (.bool (vAt (tAt S.L k).F l).obj) := hcf 0 (by omega)
  have d1 : w.cell? ⟨gf, l * 2 + 1, none⟩ = some (.int .i64 (vAt (tAt S.L k).F l).n) := hcf 1 (by omega)
  rw [ef] at c4
  clear h e1 ef hcf
  unfold val
  generalize vAt (tAt S.L k).F l = v at *
  generalize (tAt S.L k).F.length = nf at *
  generalize S.L.length = n at *
  generalize X.bt = bt at *
  have hk' : (k : Int) < n := by omega
  have hl' : (l : Int) < nf := by omega
  go_enter Tryz.func171, Tryz.ntmps171
  go_wp2
  refine bodyPost_ret (v := .agg #[.bool v.obj, .int .i64 v.n]) (by simp [results, Tryz.results171, go_sem]) rfl ⟨rfl, ?_⟩
  exact (Ext.refl _).alloc _
theorem tspecial (k : Int) (a : Value) : Calls Tryz.prog 185 #[a, .int .i64 k] w fun e w' => e = .returned (.int .i64 k) ∧ Ext w w' := by
  go_enter Tryz.func185, Tryz.ntmps185
  go_wp2
  go_ret
  exact ⟨rfl, Ext.refl _⟩
end
end Go.Proofs.YtjpalcejmloocaaGreat.World
