/-
  Reach, Reach2, LoadWord, AppNil, Bytes, Base4, as one text (a claim has at most 60 files).
-/
import Derived.Test.YtjpalcejmloocaaGreatVq21
import Derived.Deep.RegionHeld3
import Derived.Deep.DrawnRows
import Derived.Deep.AppendLies
import Derived.Test.YtjpalcejmloocaaGreatVq05
import Derived.Deep.Upon
import Derived.Lib.AppendStr
import Derived.Test.YtjpalcejmloocaaGreatVq12
namespace Go.Proofs.YtjpalcejmloocaaGreat.World
open Go.RowKit Go.Proofs.YtjpalcejmloocaaGreat.Plain
set_option linter.unusedVariables false
attribute [local go_sem ↓] Go.wp_at_zero Go.wp_at_succ

section
variable {w : World}
end
end Go.Proofs.YtjpalcejmloocaaGreat.World
namespace Go.Proofs.YtjpalcejmloocaaGreat.World
open Go.RowKit Go.Proofs.YtjpalcejmloocaaGreat.Plain
set_option linter.unusedVariables false
attribute [local go_sem ↓] Go.wp_at_zero Go.wp_at_succ

/-- a slice of numbers of the call's own -/
def OwnI (w : World) (base : Nat) (v : Value) (zs : List Int) : Prop := w.ownsRow base 3 1 v zs.length (zs.map (Value.int .i64))
theorem OwnI.nil (w : World) (base : Nat) : OwnI w base (.slice none 0 0) [] := World.ownsRow_nil _ _ _ _
theorem flat_one (zs : List Int) : flat zs.length 1 (fun i _ => .int .i64 (zs.getD i 0)) = zs.map (Value.int .i64) := by
  refine List.ext_getElem? fun i => ?_
  rcases Nat.lt_or_ge i zs.length with h | h
  · have := flat_at zs.length 1 (fun i _ => Value.int .i64 (zs.getD i 0)) i 0 h (by omega)
    rw [Nat.mul_one, Nat.add_zero] at this
    rw [this, List.getElem?_map, List.getElem?_eq_getElem h, List.getD_eq_getElem?_getD, List.getElem?_eq_getElem h]; rfl
  · rw [List.getElem?_eq_none (by rw [flat_len]; omega), List.getElem?_eq_none (by simpa using h)]
theorem OwnI.own {w : World} {base : Nat} {v : Value} {zs : List Int} (h : OwnI w base v zs) : Own w base 3 v zs.length 1 (fun i _ => .int .i64 (zs.getD i 0)) := by
  unfold Own; rw [flat_one]; exact h
theorem OwnI.ints {w : World} {base : Nat} {v : Value} {zs : List Int} (h : OwnI w base v zs) : IntsAt w v zs := h.own.row
theorem OwnI.ext {w w' : World} {base : Nat} {v : Value} {zs : List Int} (h : OwnI w base v zs) (x : Ext w w') : OwnI w' base v zs := by
  have := h.own.ext x
  unfold Own at this; rw [flat_one] at this; exact this
theorem OwnI.set {w : World} {base b i : Nat} {v u : Value} {zs : List Int} {T : TypeId} {cs : Array Value} (h : OwnI w base v zs) (hb : Blk w b T cs) (hne : 3 ≠ T) : OwnI (w.setCell ⟨b, i, none⟩ u) base v zs := by
  have := h.own.set (i := i) (u := u) hb hne
  unfold Own at this; rw [flat_one] at this; exact this
/-- what `add` makes of a list -/
def add1 (l : List Int) (x : Int) : List Int := if x ≠ 0 ∧ l.contains x = false then l ++ [x] else l
theorem infoN : (Tryz.prog.info? 3).map (fun i => (i.zero, i.size, i.bytes)) = some (some (.int .i64 0), 1, 8) := by kernel_rfl
def AddPost (w : World) (b base : Nat) (v : Value) (l : List Int) (w' : World) : Prop :=
  ∃ v', Blk w' b 25 #[v'] ∧ OwnI w' base v' l ∧ Keep (fun k => k = b ∨ v.ownBlock = some k) w w'
end Go.Proofs.YtjpalcejmloocaaGreat.World
namespace Go.Proofs.YtjpalcejmloocaaGreat.World
open Go.RowKit Go.Proofs.YtjpalcejmloocaaGreat.Plain
set_option linter.unusedVariables false
def SomeW (w : Go.World) (e : Ending) (w' : Go.World) : Prop := (∃ x : Int, e = .returned (.int .u32 x) ∧ 0 ≤ x ∧ x < 4294967296) ∧ Ext w w'
set_option maxRecDepth 100000 in
set_option maxHeartbeats 1000000 in
theorem lword {w : Go.World} {base : Nat} {A : Option Addr} {c : Nat} {zs : List Int} (h : OwnI w base (.slice A zs.length c) zs) (hb : ∀ i, i < zs.length → 0 ≤ zs.getD i 0 ∧ zs.getD i 0 ≤ 65536) (hl : zs.length ≤ 100000) (o : Bool) (k : Int) (k0 : 0 ≤ k) (k1 : k ≤ 1000000) :
    Calls Tryz.prog 125 #[.agg #[.bool o, .int .i64 k], .slice A zs.length c] w (SomeW w) := by
  cases o with
  | false =>
    have BD := intW_bd k
    clear h hb
    go_enter Tryz.func125, Tryz.ntmps125
    go_wp2_with ((go_at_call 136; refine (Word.int _ _ (by omega) (by omega)).mono ?_; rintro e w' ⟨rfl, rfl⟩))
    go_ret
    exact ⟨⟨_, rfl, BD.1, BD.2⟩, (Ext.refl _).alloc _⟩
  | true =>
    have d0 : decide (k < 0) = false := by simp; omega
    by_cases hlt : k < (zs.length : Int)
    · obtain ⟨i, rfl⟩ := Int.eq_ofNat_of_zero_le k0
      have hi : i < zs.length := by omega
      have bd := hb i hi
      have d1 : decide ((i : Int) ≥ (zs.length : Int)) = false := by simp; omega
      obtain ⟨g, off, rfl, lt, ce⟩ := h.ints.at_ i hi
      have c1 := ce 0 (by omega)
      rw [Nat.mul_one, Nat.add_zero] at c1
      have BD := refW_bd (zs.getD i 0)
      generalize zs.getD i 0 = z at *
      clear h hb ce
      go_enter Tryz.func125, Tryz.ntmps125
      go_wp2_with ((go_at_call 139; refine (Word.ref _ _ (by omega) (by omega)).mono ?_; rintro e w' ⟨rfl, rfl⟩))
      go_ret
      exact ⟨⟨_, rfl, BD.1, BD.2⟩, (Ext.refl _).alloc _⟩
    · have d1 : decide (k ≥ (zs.length : Int)) = true := by simp; omega
      have BD := refW_bd 0
      clear h hb
      go_enter Tryz.func125, Tryz.ntmps125
      go_wp2_with ((go_at_call 139; refine (Word.ref _ _ (by omega) (by omega)).mono ?_; rintro e w' ⟨rfl, rfl⟩))
      go_ret
      exact ⟨⟨_, rfl, BD.1, BD.2⟩, (Ext.refl _).alloc _⟩
end Go.Proofs.YtjpalcejmloocaaGreat.World
namespace Go.Proofs.YtjpalcejmloocaaGreat.World
open Go.RowKit Go.Proofs.YtjpalcejmloocaaGreat.Plain
set_option linter.unusedVariables false
theorem grown_ext0 {w w3 : World} (g : w.grownBy w3 (Value.slice none 0 0).ownBlock) : Ext w w3 :=
  Ext.of_below ⟨g.os, g.tape, g.output, g.size, fun k hk => g.block k hk (by simp [Value.ownBlock])⟩
section
variable {P : Program}
theorem run_append_nil {w : World} (t ty e : TypeId) (i : TypeInfo) (z : Value) (size bytes : Nat) (ht : P.underlying t = some (.slice e)) (hi : P.info? e = some i) (hz : i.zero = some z)
    (hsize : i.size = size) (hby : i.bytes = bytes) (hzs : z.cells.size = size) (hsz : 0 < size) (hb100 : bytes ≤ 100) {A : Option Addr} {n cap : Nat} {c : Nat → Nat → Value}
    (h : Row w (.slice A n cap) n size c) (h1 : ∀ i j, (c i j).oneCell' = true) (hn : n ≤ 1000000) :
    ∃ v' w', (Builtin.append_ #[t, t] ty #[.slice none 0 0, .slice A n cap]).run P w = .ok v' w' ∧ Own w' w.heap.size e v' n size c ∧ Ext w w' := by
  have hnil : n = 0 → Own w w.heap.size e (.slice none 0 0) n size c := fun h0 => by
    subst h0
    exact ⟨by rw [flat_len], .inl ⟨rfl, rfl⟩⟩
  cases A with
  | none =>
    have hn0 : n = 0 := by
      rcases Nat.eq_zero_or_pos n with h0 | h0
      · exact h0
      · obtain ⟨b, off, e, _⟩ := Row.at_ h 0 h0
        cases e
    refine ⟨.slice none 0 0, w, ?_, hnil hn0, Ext.refl _⟩
    subst hn0
    exact run_append_nothing w t t ty e i ht hi none 0 0 (Nat.le_refl _) _ (Src.ofNil _ ht cap)
  | some a =>
    rcases Nat.eq_zero_or_pos n with h0 | h0
    · refine ⟨.slice none 0 0, w, ?_, hnil h0, Ext.refl _⟩
      subst h0
      exact run_append_nothing w t t ty e i ht hi none 0 0 (Nat.le_refl _) _ (Src.ofSlice _ ht a 0 cap [] (by simp) (by intro j u hj; simp at hj) (by intro u hu; cases hu))
    · obtain ⟨b, off, ea, _⟩ := Row.at_ h 0 h0
      injection ea with ea
      subst ea
      have hN := h.news
      obtain ⟨g, cap', w', hr, h2, h3, _, _⟩ := run_append_lies (P := P) w t ty w.heap.size e i z size bytes ht hi hz hsize hby hzs hsz (.slice none 0 0) 0 [] (World.ownsRow_nil _ _ _ _)
        ⟨b, off, none⟩ n cap (flat n size c) (flat_len _ _ _) hN (by
          intro u hu
          obtain ⟨q, hq, e⟩ := List.getElem_of_mem hu
          obtain ⟨_, _, rfl⟩ := flat_some (by rw [List.getElem?_eq_getElem hq, e])
          exact h1 _ _) h0 (by unfold maxLen; omega) (by
          have : (0 + n) * bytes ≤ 1000000 * 100 := Nat.mul_le_mul (by omega) hb100
          omega) (Nat.le_refl _) _ rfl
      rw [Nat.zero_add, List.nil_append] at h2
      rw [Nat.zero_add] at hr
      exact ⟨_, w', hr, h2, grown_ext0 h3⟩
theorem wp_append_nil {w : World} {o : Oper} {a : Act} {K : Act → World → Prop} {Q : Exit → Act → World → Prop} (x : Operand) (t : TypeId)
    (ho : o.op = .call { callee := .builtin .append, args := #[.const (.slice none 0 0), x], argTypes := #[t, t] })
    (e : TypeId) (i : TypeInfo) (z : Value) (size bytes : Nat) (ht : P.underlying t = some (.slice e)) (hi : P.info? e = some i) (hz : i.zero = some z)
    (hsize : i.size = size) (hby : i.bytes = bytes) (hzs : z.cells.size = size) (hsz : 0 < size) (hb100 : bytes ≤ 100) {A : Option Addr} {n cap : Nat} {c : Nat → Nat → Value}
    (hx : a.eval x = .slice A n cap) (h : Row w (.slice A n cap) n size c) (h1 : ∀ i j, (c i j).oneCell' = true) (hn : n ≤ 1000000)
    (hk : ∀ v' w', Own w' w.heap.size e v' n size c → Ext w w' → K (a.put o.dst v') w') : o.wp P a w K Q := by
  obtain ⟨v', w', hr, h2, h3⟩ := run_append_nil (P := P) t o.type e i z size bytes ht hi hz hsize hby hzs hsz hb100 h h1 hn
  have hs : a.eval (.const (.slice none 0 0)) = .slice none 0 0 := rfl
  unfold Oper.wp execOp
  simp only [ho, resolve, invoke, builtin, Sem.run_bind, Sem.run_pure, Result.andThen_ok, List.map_toArray, List.map_cons, List.map_nil, hs, hx, hr]
  exact hk v' w' h2 h3
theorem wpList_append_nil {w : World} {ops : Array Oper} {rest : List Oper} {o : Oper} {a : Act} {Q : Exit → Act → World → Prop} (hgd : o.guard = none) (x : Operand) (t : TypeId)
    (ho : o.op = .call { callee := .builtin .append, args := #[.const (.slice none 0 0), x], argTypes := #[t, t] })
    (e : TypeId) (i : TypeInfo) (z : Value) (size bytes : Nat) (ht : P.underlying t = some (.slice e)) (hi : P.info? e = some i) (hz : i.zero = some z)
    (hsize : i.size = size) (hby : i.bytes = bytes) (hzs : z.cells.size = size) (hsz : 0 < size) (hb100 : bytes ≤ 100) {A : Option Addr} {n cap : Nat} {c : Nat → Nat → Value}
    (hx : a.eval x = .slice A n cap) (h : Row w (.slice A n cap) n size c) (h1 : ∀ i j, (c i j).oneCell' = true) (hn : n ≤ 1000000)
    (hk : ∀ v' w', Own w' w.heap.size e v' n size c → Ext w w' → wpList P ops Q rest (a.put o.dst v') w') : wpList P ops Q (o :: rest) a w :=
  wpList_plain hgd fun _ hK => wp_append_nil x t ho e i z size bytes ht hi hz hsize hby hzs hsz hb100 hx h h1 hn fun v' w' h2 h3 => hK _ _ (hk v' w' h2 h3)
end
end Go.Proofs.YtjpalcejmloocaaGreat.World
namespace Go.Proofs.YtjpalcejmloocaaGreat.World
open Go.RowKit Go.Proofs.YtjpalcejmloocaaGreat.Plain
set_option linter.unusedVariables false
attribute [local go_sem ↓] Go.wp_at_zero Go.wp_at_succ
def OwnB (w : World) (base : Nat) (v : Value) (zs : List Int) : Prop := w.ownsRow base 5 1 v zs.length (zs.map (Value.int .u8))
theorem infoU : (Tryz.prog.info? 5).map (fun i => (i.zero, i.size, i.bytes)) = some (some (.int .u8 0), 1, 1) := by kernel_rfl
theorem OwnB.nil (w : World) (base : Nat) : OwnB w base (.slice none 0 0) [] := World.ownsRow_nil _ _ _ _
def cU (l : List Int) : Nat → Nat → Value := fun i _ => .int .u8 (l.getD i 0)
theorem flat_oneU (zs : List Int) : flat zs.length 1 (cU zs) = zs.map (Value.int .u8) := by
  refine List.ext_getElem? fun i => ?_
  rcases Nat.lt_or_ge i zs.length with h | h
  · have := flat_at zs.length 1 (cU zs) i 0 h (by omega)
    rw [Nat.mul_one, Nat.add_zero] at this
    rw [this, List.getElem?_map, List.getElem?_eq_getElem h]
    unfold cU
    rw [List.getD_eq_getElem?_getD, List.getElem?_eq_getElem h]; rfl
  · rw [List.getElem?_eq_none (by rw [flat_len]; omega), List.getElem?_eq_none (by simpa using h)]
theorem OwnB.own {w : World} {base : Nat} {v : Value} {zs : List Int} (h : OwnB w base v zs) : Own w base 5 v zs.length 1 (cU zs) := by
  unfold Own; rw [flat_oneU]; exact h
theorem Own.bytes {w : World} {base : Nat} {v : Value} {zs : List Int} (h : Own w base 5 v zs.length 1 (cU zs)) : OwnB w base v zs := by
  unfold Own at h; rw [flat_oneU] at h; exact h
theorem OwnB.ext {w w' : World} {base : Nat} {v : Value} {zs : List Int} (h : OwnB w base v zs) (x : Ext w w') : OwnB w' base v zs := Own.bytes (h.own.ext x)
theorem OwnB.kt {w w' : World} {base : Nat} {v : Value} {zs : List Int} {ts : List TypeId} (h : OwnB w base v zs) (k : KT ts w w') (hn : 5 ∉ ts) : OwnB w' base v zs := Own.bytes (h.own.kt k hn)
theorem OwnB.keep {w w' : World} {base : Nat} {v : Value} {zs : List Int} (h : OwnB w base v zs) {w0 : World} (x : Ext w0 w) (hb : base = w0.heap.size) (k : Keep (fun j => v.ownBlock = some j) w w') : KT [5] w w' ∧ Ext w0 w' :=
  ⟨Keep.mono k (fun j hj => by obtain ⟨_, cs, hb⟩ := h.own.block hj; exact ⟨_, _, by simp, hb⟩), Ext.of_below (Keep.below x.below k x.below.size (fun i hi e => by have := (h.own.block e).1; omega))⟩
theorem OwnB.form {w : World} {base : Nat} {v : Value} {zs : List Int} (h : OwnB w base v zs) : ∃ A c, v = .slice A zs.length c := by
  rcases h.2 with ⟨e, h0⟩ | ⟨g, cap, cur, e, _⟩
  · rw [e, h0]; exact ⟨_, _, rfl⟩
  · exact ⟨_, _, e⟩
/-- a number's four bytes -/
def b4 (n : Int) : List Int := [n / 16777216, n / 65536 % 256, n / 256 % 256, n % 256]
section
variable {w : World}
set_option maxRecDepth 100000 in
set_option maxHeartbeats 2000000 in
theorem number {base : Nat} {v : Value} {zs : List Int} (h : OwnB w base v zs) (hz : zs.length ≤ 10000000) {w0 : World} (x0 : Ext w0 w) (hb : base = w0.heap.size) {n : Int} (n0 : 0 ≤ n) (n1 : n < 4294967296) :
    Calls Tryz.prog 314 #[v, .int .u32 n] w fun e w' => ∃ A c, e = .returned (.slice A (zs.length + 4) c) ∧ OwnB w' base (.slice A (zs.length + 4) c) (zs ++ b4 n) ∧ KT [5] w w' ∧ Ext w0 w' := by
  obtain ⟨A0, c0, rfl⟩ := h.form
  obtain ⟨i0, hi, hz0, hz1, hz2⟩ := info_parts infoU
  have HH := Lib.hid h
  have X0 := Lib.hid x0
  have hbw : base ≤ w.heap.size := by rw [hb]; exact x0.below.size
  have HB := Lib.hid hb
  clear h x0 hb
  go_enter Tryz.func314, Tryz.ntmps314
  have XV := Lib.hid ((Ext.refl w).alloc (.cells #[.int .u8 (n / 16777216), .int .u8 (n / 65536 % 256), .int .u8 (n / 256 % 256), .int .u8 (n % 256)] 5))
  go_wp2_with (at_builtin; refine wpList_append_own_at _ rfl (.tmp 5) (.tmp 17) 79 rfl base 5 i0 (.int .u8 0) 1 1 Tryz.underlying79 hi hz0 hz1 hz2 rfl (by decide) (.slice A0 zs.length c0) zs.length (zs.map (Value.int .u8)) rfl ?c0 ⟨w.heap.size, 0, none⟩ 4 4 [.int .u8 (n / 16777216), .int .u8 (n / 65536 % 256), .int .u8 (n / 256 % 256), .int .u8 (n % 256)] rfl rfl ?c1 ?c2 ?c3 ?c4 ?c5 ?_)
  case c0 => exact HH.out.ext XV.out
  case c1 =>
    intro q u hq
    have hB := Blk.new w 5 #[.int .u8 (n / 16777216), .int .u8 (n / 65536 % 256), .int .u8 (n / 256 % 256), .int .u8 (n % 256)]
    rw [Addr.add_lit, Nat.zero_add, hB.cell, ← Array.getElem?_toList]
    exact hq
  case c2 =>
    intro u hu
    simp only [List.mem_cons, List.not_mem_nil, or_false] at hu
    rcases hu with rfl | rfl | rfl | rfl <;> rfl
  case c3 => unfold maxLen; omega
  case c4 => omega
  case c5 => have h2 := XV.out.below.size; omega
  intro v' w3 o3 g3 _ _
  have KW : Keep (fun j => Value.ownBlock (.slice A0 zs.length c0) = some j) (w.alloc (.cells #[.int .u8 (n / 16777216), .int .u8 (n / 65536 % 256), .int .u8 (n / 256 % 256), .int .u8 (n % 256)] 5)) w3 := ⟨g3.os, g3.tape, g3.output, g3.size, fun k hk hn => g3.block k hk (fun e => hn e.symm)⟩
  obtain ⟨gd, cd, rfl, _⟩ := o3.form (by omega)
  have KF := Lib.hid ((Keep.of_ext XV.out _).trans KW)
  have O3 : Hid (OwnB w3 base (.slice (some ⟨gd, 0, none⟩) (zs.length + 4) cd) (zs ++ b4 n)) := Lib.hid (by
    unfold OwnB b4
    rw [List.length_append, List.map_append]
    exact o3)
  clear KW o3 g3
  go_wp2_with fail
  go_ret
  obtain ⟨k3, x3⟩ := HH.out.keep X0.out HB.out KF.out
  exact ⟨_, _, rfl, O3.out, k3, x3⟩
end
end Go.Proofs.YtjpalcejmloocaaGreat.World
namespace Go.Proofs.YtjpalcejmloocaaGreat.World
open Go.RowKit Go.Proofs.YtjpalcejmloocaaGreat.Plain
set_option linter.unusedVariables false
attribute [go_sem] ext_ext
section
variable {w w' : World}
class IsExt (w w' : World) : Prop where
  out : Ext w w'
instance IsExt.refl (w : World) : IsExt w w := ⟨Ext.refl w⟩
instance IsExt.alloc (w w' : World) (o : Obj) [h : IsExt w w'] : IsExt w (w'.alloc o) := ⟨h.out.alloc o⟩
instance IsExt.drew (w w' : World) [h : IsExt w w'] : IsExt w w'.drew := ⟨h.out.drew⟩
instance IsExt.drewN (w w' : World) (n : Nat) [h : IsExt w w'] : IsExt w (w'.drewN n) := ⟨h.out.drewN n⟩
instance IsExt.ext (w w' : World) (x : More) [h : IsExt w w'] : IsExt w (Plain.ext w' x) := ⟨h.out.ext x⟩
theorem is_ext (w w' : World) [h : IsExt w w'] : Ext w w' := h.out
def Typ (w : World) (v : Value) (t : TypeId) : Prop := ∀ k, v.ownBlock = some k → ∃ cs, Blk w k t cs
theorem Typ.ext {v : Value} {t : TypeId} (h : Typ w v t) (x : Ext w w') : Typ w' v t := fun k hk => by obtain ⟨cs, b⟩ := h k hk; exact ⟨cs, b.ext x⟩
def val (v : PV) : Value := .agg #[.bool v.obj, .int .i64 v.n]
theorem Own.far {b : Nat} {e : TypeId} {v : Value} {n sz : Nat} {c : Nat → Nat → Value} {P : Nat → Prop} (h : Own w b e v n sz c) (k : Keep P w w') (hn : ∀ j, v.ownBlock = some j → ¬ P j) : Own w' b e v n sz c := by
  have h : w.ownsRow b e sz v n (flat n sz c) := h
  refine ⟨h.1, ?_⟩
  rcases h.2 with hh | ⟨g, cap, cur, e1, h1, hg, rest⟩
  · exact .inl hh
  · exact .inr ⟨g, cap, cur, e1, h1, Blk.keep (show Blk w g e cur from hg) k (hn g (by rw [e1]; rfl)), rest⟩
theorem Own.congr {b : Nat} {e : TypeId} {v : Value} {n sz : Nat} {c c' : Nat → Nat → Value} (h : Own w b e v n sz c) (hc : ∀ i j, i < n → j < sz → c i j = c' i j) : Own w b e v n sz c' := by
  have h' : w.ownsRow b e sz v n (flat n sz c) := h
  have ef : flat n sz c = flat n sz c' := by
    unfold flat
    refine List.map_congr_left fun q hq => ?_
    have hq : q < n * sz := List.mem_range.1 hq
    have hs : 0 < sz := by
      rcases Nat.eq_zero_or_pos sz with h1 | h1
      · subst h1; omega
      · exact h1
    exact hc _ _ (Nat.div_lt_of_lt_mul (by rw [Nat.mul_comm]; exact hq)) (Nat.mod_lt _ hs)
  rw [ef] at h'
  exact h'
theorem Own.kt1 {b g : Nat} {e t : TypeId} {v : Value} {n sz : Nat} {c : Nat → Nat → Value} {cs : Array Value} (h : Own w b e v n sz c) (hg : Blk w g t cs) (k : Keep (· = g) w w') (hn : e ≠ t) : Own w' b e v n sz c :=
  h.far k (fun j hj hh => by
    obtain ⟨_, cs', hb⟩ := h.block hj
    subst hh
    exact hb.ne hg hn rfl)
theorem Row.far {v : Value} {n sz : Nat} {c : Nat → Nat → Value} {P : Nat → Prop} (h : Row w v n sz c) (k : Keep P w w') (hn : ∀ j, v.ownBlock = some j → ¬ P j) : Row w' v n sz c := by
  obtain ⟨A, cap, e, h1, h2, h3⟩ := h.ex
  refine ⟨A, cap, e, h1, h2, fun i hi => ?_⟩
  obtain ⟨b, off, ea, hb, hc⟩ := h3 i hi
  refine ⟨b, off, ea, Nat.lt_of_lt_of_le hb k.size, fun j hj => ?_⟩
  rw [← hc j hj]
  exact World.cell?_of_block (k.block b hb (hn b (by rw [e, ea]; rfl)))
theorem Typ.kt {v : Value} {t : TypeId} {ts : List TypeId} (h : Typ w v t) (k : KT ts w w') (hn : t ∉ ts) : Typ w' v t := fun j hj => by obtain ⟨cs, b⟩ := h j hj; exact ⟨cs, blk_kt b k hn⟩
theorem Row.kt {v : Value} {n sz : Nat} {c : Nat → Nat → Value} {t : TypeId} {ts : List TypeId} (h : Row w v n sz c) (y : Typ w v t) (k : KT ts w w') (hn : t ∉ ts) : Row w' v n sz c :=
  h.far k (fun j hj => by
    obtain ⟨cs, b⟩ := y j hj
    rintro ⟨t', cs', ht, hb⟩
    by_cases e : t = t'
    · subst e; exact hn ht
    · exact b.ne hb e rfl)
theorem grow_keep {wr w3 : World} {ob : Obj} {v : Value} (g : (wr.alloc ob).grownBy w3 v.ownBlock) : Keep (fun k => v.ownBlock = some k) wr w3 :=
  ((Keep.refl _ wr).alloc ob).trans ⟨g.os, g.tape, g.output, g.size, fun k hk hn => g.block k hk (fun e => hn e.symm)⟩
theorem grow_kt {wr w3 : World} {ob : Obj} {v : Value} {b n sz : Nat} {e : TypeId} {c : Nat → Nat → Value} (h : Own wr b e v n sz c) (g : (wr.alloc ob).grownBy w3 v.ownBlock) : KT [e] wr w3 :=
  (grow_keep g).mono (fun j hj => by obtain ⟨_, cs, hb⟩ := h.block hj; exact ⟨_, _, by simp, hb⟩)
theorem six_one (t : PT) (v : Value) (h : v.oneCell' = true) : ∀ u ∈ [Value.int .i64 t.cls, .int .i64 t.fmt, .int .i64 t.hash, .bool t.fin, v, .string t.B], u.oneCell' = true := by
  intro u hu
  simp only [List.mem_cons, List.not_mem_nil, or_false] at hu
  rcases hu with rfl | rfl | rfl | rfl | rfl | rfl <;> first | exact h | rfl
end
end Go.Proofs.YtjpalcejmloocaaGreat.World
