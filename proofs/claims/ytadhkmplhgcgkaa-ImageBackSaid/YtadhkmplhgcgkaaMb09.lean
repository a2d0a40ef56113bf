/-
  AppNil, Bytes, MemPlain, as one text (a claim has at most 60 files).
-/
import Derived.Test.YtadhkmplhgcgkaaMb08
import Derived.Deep.AppendLies
import Derived.Deep.Upon
import Derived.Test.YtadhkmplhgcgkaaMb02
import Derived.Lib.AppendStr
import Derived.Deep.RegionHeld3
namespace Go.Proofs.Ytadhkmplhgcgkaa.World
open Go.RowKit Go.Proofs.Ytadhkmplhgcgkaa.Plain
set_option linter.unusedVariables false
theorem grown_ext0 {w w3 : World} (g : w.grownBy w3 (Value.slice none 0 0).ownBlock) : Ext w w3 :=
  Ext.of_below ⟨g.os, g.tape, g.output, g.size, fun k hk => g.block k hk (by simp [Value.ownBlock])⟩
section
variable {P : Program}
theorem run_append_nil {w : World} (t ty e : TypeId) (i : TypeInfo) (z : Value) (size bytes : Nat) (ht : P.underlying t = some (.slice e)) (hi : P.info? e = some i) (hz : i.zero = some z)
    (hsize : i.size = size) (hby : i.bytes = bytes) (hzs : z.cells.size = size) (hsz : 0 < size) (hb100 : bytes ≤ 100) {A : Option Addr} {n cap : Nat} {c : Nat → Nat → Value}
    (h : Row w (.slice A n cap) n size c) (h1 : ∀ i j, (c i j).oneCell' = true) (hn : n ≤ 1000000) :
    ∃ v' w', (Builtin.append_ #[t, t] ty #[.slice none 0 0, .slice A n cap]).run P w = .ok v' w' ∧ Own w' w.heap.size e v' n size c ∧ Ext w w' := by
  have hnil : n = 0 → Own w w.heap.size e (.slice none 0 0) n size c := fun h0 => by
    subst h0
    exact ⟨by rw [flat_len], .inl ⟨rfl, rfl⟩⟩
  cases A with
  | none =>
    have hn0 : n = 0 := by
      rcases Nat.eq_zero_or_pos n with h0 | h0
      · exact h0
      · obtain ⟨b, off, e, _⟩ := Row.at_ h 0 h0
        cases e
    refine ⟨.slice none 0 0, w, ?_, hnil hn0, Ext.refl _⟩
    subst hn0
    exact run_append_nothing w t t ty e i ht hi none 0 0 (Nat.le_refl _) _ (Src.ofNil _ ht cap)
  | some a =>
    rcases Nat.eq_zero_or_pos n with h0 | h0
    · refine ⟨.slice none 0 0, w, ?_, hnil h0, Ext.refl _⟩
      subst h0
      exact run_append_nothing w t t ty e i ht hi none 0 0 (Nat.le_refl _) _ (Src.ofSlice _ ht a 0 cap [] (by simp) (by intro j u hj; simp at hj) (by intro u hu; cases hu))
    · obtain ⟨b, off, ea, _⟩ := Row.at_ h 0 h0
      injection ea with ea
      subst ea
      have hN := h.news
      obtain ⟨g, cap', w', hr, h2, h3, _, _⟩ := run_append_lies (P := P) w t ty w.heap.size e i z size bytes ht hi hz hsize hby hzs hsz (.slice none 0 0) 0 [] (World.ownsRow_nil _ _ _ _)
        ⟨b, off, none⟩ n cap (flat n size c) (flat_len _ _ _) hN (by
          intro u hu
          obtain ⟨q, hq, e⟩ := List.getElem_of_mem hu
          obtain ⟨_, _, rfl⟩ := flat_some (by rw [List.getElem?_eq_getElem hq, e])
          exact h1 _ _) h0 (by unfold maxLen; omega) (by
          have : (0 + n) * bytes ≤ 1000000 * 100 := Nat.mul_le_mul (by omega) hb100
          omega) (Nat.le_refl _) _ rfl
      rw [Nat.zero_add, List.nil_append] at h2
      rw [Nat.zero_add] at hr
      exact ⟨_, w', hr, h2, grown_ext0 h3⟩
theorem wp_append_nil {w : World} {o : Oper} {a : Act} {K : Act → World → Prop} {Q : Exit → Act → World → Prop} (x : Operand) (t : TypeId)
    (ho : o.op = .call { callee := .builtin .append, args := #[.const (.slice none 0 0), x], argTypes := #[t, t] })
    (e : TypeId) (i : TypeInfo) (z : Value) (size bytes : Nat) (ht : P.underlying t = some (.slice e)) (hi : P.info? e = some i) (hz : i.zero = some z)
    (hsize : i.size = size) (hby : i.bytes = bytes) (hzs : z.cells.size = size) (hsz : 0 < size) (hb100 : bytes ≤ 100) {A : Option Addr} {n cap : Nat} {c : Nat → Nat → Value}
    (hx : a.eval x = .slice A n cap) (h : Row w (.slice A n cap) n size c) (h1 : ∀ i j, (c i j).oneCell' = true) (hn : n ≤ 1000000)
    (hk : ∀ v' w', Own w' w.heap.size e v' n size c → Ext w w' → K (a.put o.dst v') w') : o.wp P a w K Q := by
  obtain ⟨v', w', hr, h2, h3⟩ := run_append_nil (P := P) t o.type e i z size bytes ht hi hz hsize hby hzs hsz hb100 h h1 hn
  have hs : a.eval (.const (.slice none 0 0)) = .slice none 0 0 := rfl
  unfold Oper.wp execOp
  simp only [ho, resolve, invoke, builtin, Sem.run_bind, Sem.run_pure, Result.andThen_ok, List.map_toArray, List.map_cons, List.map_nil, hs, hx, hr]
  exact hk v' w' h2 h3
theorem wpList_append_nil {w : World} {ops : Array Oper} {rest : List Oper} {o : Oper} {a : Act} {Q : Exit → Act → World → Prop} (hgd : o.guard = none) (x : Operand) (t : TypeId)
    (ho : o.op = .call { callee := .builtin .append, args := #[.const (.slice none 0 0), x], argTypes := #[t, t] })
    (e : TypeId) (i : TypeInfo) (z : Value) (size bytes : Nat) (ht : P.underlying t = some (.slice e)) (hi : P.info? e = some i) (hz : i.zero = some z)
    (hsize : i.size = size) (hby : i.bytes = bytes) (hzs : z.cells.size = size) (hsz : 0 < size) (hb100 : bytes ≤ 100) {A : Option Addr} {n cap : Nat} {c : Nat → Nat → Value}
    (hx : a.eval x = .slice A n cap) (h : Row w (.slice A n cap) n size c) (h1 : ∀ i j, (c i j).oneCell' = true) (hn : n ≤ 1000000)
    (hk : ∀ v' w', Own w' w.heap.size e v' n size c → Ext w w' → wpList P ops Q rest (a.put o.dst v') w') : wpList P ops Q (o :: rest) a w :=
  wpList_plain hgd fun _ hK => wp_append_nil x t ho e i z size bytes ht hi hz hsize hby hzs hsz hb100 hx h h1 hn fun v' w' h2 h3 => hK _ _ (hk v' w' h2 h3)
end
end Go.Proofs.Ytadhkmplhgcgkaa.World
namespace Go.Proofs.Ytadhkmplhgcgkaa.World
open Go.RowKit Go.Proofs.Ytadhkmplhgcgkaa.Plain
set_option linter.unusedVariables false
attribute [local go_sem ↓] Go.wp_at_zero Go.wp_at_succ
def OwnB (w : World) (base : Nat) (v : Value) (zs : List Int) : Prop := w.ownsRow base 5 1 v zs.length (zs.map (Value.int .u8))
theorem infoU : (Try.prog.info? 5).map (fun i => (i.zero, i.size, i.bytes)) = some (some (.int .u8 0), 1, 1) := by kernel_rfl
theorem OwnB.nil (w : World) (base : Nat) : OwnB w base (.slice none 0 0) [] := World.ownsRow_nil _ _ _ _
def cU (l : List Int) : Nat → Nat → Value := fun i _ => .int .u8 (l.getD i 0)
theorem flat_oneU (zs : List Int) : flat zs.length 1 (cU zs) = zs.map (Value.int .u8) := by
  refine List.ext_getElem? fun i => ?_
  rcases Nat.lt_or_ge i zs.length with h | h
  · have := flat_at zs.length 1 (cU zs) i 0 h (by omega)
    rw [Nat.mul_one, Nat.add_zero] at this
    rw [this, List.getElem?_map, List.getElem?_eq_getElem h]
    unfold cU
    rw [List.getD_eq_getElem?_getD, List.getElem?_eq_getElem h]; rfl
  · rw [List.getElem?_eq_none (by rw [flat_len]; omega), List.getElem?_eq_none (by simpa using h)]
theorem OwnB.own {w : World} {base : Nat} {v : Value} {zs : List Int} (h : OwnB w base v zs) : Own w base 5 v zs.length 1 (cU zs) := by
  unfold Own; rw [flat_oneU]; exact h
theorem Own.bytes {w : World} {base : Nat} {v : Value} {zs : List Int} (h : Own w base 5 v zs.length 1 (cU zs)) : OwnB w base v zs := by
  unfold Own at h; rw [flat_oneU] at h; exact h
theorem OwnB.ext {w w' : World} {base : Nat} {v : Value} {zs : List Int} (h : OwnB w base v zs) (x : Ext w w') : OwnB w' base v zs := Own.bytes (h.own.ext x)
theorem OwnB.kt {w w' : World} {base : Nat} {v : Value} {zs : List Int} {ts : List TypeId} (h : OwnB w base v zs) (k : KT ts w w') (hn : 5 ∉ ts) : OwnB w' base v zs := Own.bytes (h.own.kt k hn)
theorem OwnB.keep {w w' : World} {base : Nat} {v : Value} {zs : List Int} (h : OwnB w base v zs) {w0 : World} (x : Ext w0 w) (hb : base = w0.heap.size) (k : Keep (fun j => v.ownBlock = some j) w w') : KT [5] w w' ∧ Ext w0 w' :=
  ⟨Keep.mono k (fun j hj => by obtain ⟨_, cs, hb⟩ := h.own.block hj; exact ⟨_, _, by simp, hb⟩), Ext.of_below (Keep.below x.below k x.below.size (fun i hi e => by have := (h.own.block e).1; omega))⟩
theorem OwnB.form {w : World} {base : Nat} {v : Value} {zs : List Int} (h : OwnB w base v zs) : ∃ A c, v = .slice A zs.length c := by
  rcases h.2 with ⟨e, h0⟩ | ⟨g, cap, cur, e, _⟩
  · rw [e, h0]; exact ⟨_, _, rfl⟩
  · exact ⟨_, _, e⟩
/-- a number's four bytes -/
def b4 (n : Int) : List Int := [n / 16777216, n / 65536 % 256, n / 256 % 256, n % 256]
section
variable {w : World}
set_option maxRecDepth 100000 in
set_option maxHeartbeats 2000000 in
theorem number {base : Nat} {v : Value} {zs : List Int} (h : OwnB w base v zs) (hz : zs.length ≤ 10000000) {w0 : World} (x0 : Ext w0 w) (hb : base = w0.heap.size) {n : Int} (n0 : 0 ≤ n) (n1 : n < 4294967296) :
    Calls Try.prog 40 #[v, .int .u32 n] w fun e w' => ∃ A c, e = .returned (.slice A (zs.length + 4) c) ∧ OwnB w' base (.slice A (zs.length + 4) c) (zs ++ b4 n) ∧ KT [5] w w' ∧ Ext w0 w' := by
  obtain ⟨A0, c0, rfl⟩ := h.form
  obtain ⟨i0, hi, hz0, hz1, hz2⟩ := info_parts infoU
  have HH := Lib.hid h
  have X0 := Lib.hid x0
  have hbw : base ≤ w.heap.size := by rw [hb]; exact x0.below.size
  have HB := Lib.hid hb
  clear h x0 hb
  go_enter Try.func40, Try.ntmps40
  have XV := Lib.hid ((Ext.refl w).alloc (.cells #[.int .u8 (n / 16777216), .int .u8 (n / 65536 % 256), .int .u8 (n / 256 % 256), .int .u8 (n % 256)] 5))
  go_wp2_with (at_builtin; refine wpList_append_own_at _ rfl (.tmp 5) (.tmp 17) 45 rfl base 5 i0 (.int .u8 0) 1 1 Try.underlying45 hi hz0 hz1 hz2 rfl (by decide) (.slice A0 zs.length c0) zs.length (zs.map (Value.int .u8)) rfl ?c0 ⟨w.heap.size, 0, none⟩ 4 4 [.int .u8 (n / 16777216), .int .u8 (n / 65536 % 256), .int .u8 (n / 256 % 256), .int .u8 (n % 256)] rfl rfl ?c1 ?c2 ?c3 ?c4 ?c5 ?_)
  case c0 => exact HH.out.ext XV.out
  case c1 =>
    intro q u hq
    have hB := Blk.new w 5 #[.int .u8 (n / 16777216), .int .u8 (n / 65536 % 256), .int .u8 (n / 256 % 256), .int .u8 (n % 256)]
    rw [Addr.add_lit, Nat.zero_add, hB.cell, ← Array.getElem?_toList]
    exact hq
  case c2 =>
    intro u hu
    simp only [List.mem_cons, List.not_mem_nil, or_false] at hu
    rcases hu with rfl | rfl | rfl | rfl <;> rfl
  case c3 => unfold maxLen; omega
  case c4 => omega
  case c5 => have h2 := XV.out.below.size; omega
  intro v' w3 o3 g3 _ _
  have KW : Keep (fun j => Value.ownBlock (.slice A0 zs.length c0) = some j) (w.alloc (.cells #[.int .u8 (n / 16777216), .int .u8 (n / 65536 % 256), .int .u8 (n / 256 % 256), .int .u8 (n % 256)] 5)) w3 := ⟨g3.os, g3.tape, g3.output, g3.size, fun k hk hn => g3.block k hk (fun e => hn e.symm)⟩
  obtain ⟨gd, cd, rfl, _⟩ := o3.form (by omega)
  have KF := Lib.hid ((Keep.of_ext XV.out _).trans KW)
  have O3 : Hid (OwnB w3 base (.slice (some ⟨gd, 0, none⟩) (zs.length + 4) cd) (zs ++ b4 n)) := Lib.hid (by
    unfold OwnB b4
    rw [List.length_append, List.map_append]
    exact o3)
  clear KW o3 g3
  go_wp2_with fail
  go_ret
  obtain ⟨k3, x3⟩ := HH.out.keep X0.out HB.out KF.out
  exact ⟨_, _, rfl, O3.out, k3, x3⟩
end
end Go.Proofs.Ytadhkmplhgcgkaa.World
namespace Go.Proofs.Ytadhkmplhgcgkaa.World
open Go.RowKit Go.Proofs.Ytadhkmplhgcgkaa.Plain
set_option linter.unusedVariables false

structure MS where
  L : List PT
  dead : List Bool
  col : List Int
  last : Int
  R : PR
  phase : Int
  stk : List Int
  most : Nat
  over : Bool
  lst : List Int
  short : Bool
namespace MS
def has (S : MS) (i : Int) : Bool := decide (0 ≤ i ∧ i < S.L.length) && !(S.dead.getD i.toNat false)
def t (S : MS) (i : Int) : PT := tAt S.L i.toNat
def fmt (S : MS) (i : Int) : Int := if S.has i then (S.t i).fmt else 0
def size (S : MS) (i : Int) : Int := if S.has i then ((S.t i).F.length : Int) + ((S.t i).B.size : Int) else -1
def cls (S : MS) (i : Int) : Int := if S.has i then (S.t i).cls else 0
def hash (S : MS) (i : Int) : Int := if S.has i then (S.t i).hash else -1
def field (S : MS) (i j : Int) : PV := vAt (S.t i).F j.toNat
def isField (S : MS) (i j : Int) : Bool := S.has i && (!decide (S.fmt i = 3) && decide (0 ≤ j ∧ j < S.size i))
def get (S : MS) (i j : Int) : PV := if S.isField i j then S.field i j else dV
def may (S : MS) (v : PV) : Bool := if v.obj then S.has v.n else fitsB v.n
def sizeOK (v : PV) : Bool := !v.obj && decide (0 ≤ v.n ∧ v.n ≤ 60)
def fmtOK (v : PV) : Bool := !v.obj && decide (1 ≤ v.n ∧ v.n ≤ 3)
def isClass (S : MS) (i : Int) : Bool := S.has i && (decide (S.fmt i = 1) && (decide (5 ≤ S.size i) && (sizeOK (S.field i 3) && fmtOK (S.field i 4))))
def madeN (S : MS) (c : Int) : Int := if S.isClass c then (S.field c 3).n else 0
def madeF (S : MS) (c : Int) : Int := if S.isClass c then (S.field c 4).n else 0
def setT (S : MS) (i : Int) (x : PT) : MS := { S with L := S.L.set i.toNat x }
def put (S : MS) (i j : Int) (v : PV) : MS := S.setT i { S.t i with F := (S.t i).F.set j.toNat v }
def setOK (S : MS) (i j : Int) (v : PV) : Bool := S.isField i j && (S.may v && !(((decide (j = 3) && !sizeOK v) || (decide (j = 4) && !fmtOK v)) && S.isClass i))
def set (S : MS) (i j : Int) (v : PV) : MS := if S.setOK i j v then S.put i j v else S
def isByte (S : MS) (i j : Int) : Bool := S.has i && (decide (S.fmt i = 3) && decide (0 ≤ j ∧ j < S.size i))
def byte (S : MS) (i j : Int) : Int := if S.isByte i j then (((S.t i).B.data[j.toNat]?.getD 0).toNat : Int) else -1
def nilV : PV := ⟨true, 0⟩
/-- a new thing of a class, its fields nothing -/
def newT (c f : Int) (n : Nat) (h : Int) : PT := if f = 3 then ⟨c, f, h, false, [], strOfNums (List.replicate n 0)⟩ else ⟨c, f, h, false, List.replicate n nilV, ByteArray.empty⟩
def add (S : MS) (x : PT) : MS := { S with L := S.L ++ [x], dead := S.dead ++ [false], col := S.col ++ [0], last := S.last + 1 }
def makeOK (S : MS) (c n : Int) : Bool := S.isClass c && (decide (0 ≤ n) && (decide (n ≤ (if S.madeF c = 3 then 200 else 60 - S.madeN c)) && decide (S.last < 3000)))
def makeSz (S : MS) (c n : Int) : Int := if S.madeF c = 3 then n else S.madeN c + n
def make (S : MS) (c n : Int) : MS := if S.makeOK c n then S.add (newT c (S.madeF c) (S.makeSz c n).toNat (S.last + 1)) else S
def makeId (S : MS) (c n : Int) : Int := if S.makeOK c n then S.L.length else 0
end MS
/-- what is kept of a world, whatever is done -/
structure MS.Wf (S : MS) : Prop where
  dead : S.dead.length = S.L.length
  col : S.col.length = S.L.length
  lo : 23 ≤ S.L.length
  len : (S.L.length : Int) ≤ S.last
  last : S.last ≤ 3000
  fmt : ∀ i, i < S.L.length → (tAt S.L i).fmt = 1 ∨ (tAt S.L i).fmt = 2 ∨ (tAt S.L i).fmt = 3
  noB : ∀ i, i < S.L.length → (tAt S.L i).fmt ≠ 3 → (tAt S.L i).B.size = 0
  noF : ∀ i, i < S.L.length → (tAt S.L i).fmt = 3 → (tAt S.L i).F = []
  nF : ∀ i, i < S.L.length → (tAt S.L i).F.length ≤ 60
  nB : ∀ i, i < S.L.length → (tAt S.L i).B.size ≤ 200
  cls : ∀ i, i < S.L.length → 0 ≤ (tAt S.L i).cls ∧ (tAt S.L i).cls < S.L.length
  hash : ∀ i, i < S.L.length → 1 ≤ (tAt S.L i).hash ∧ (tAt S.L i).hash ≤ 3000
  fld : ∀ i j, i < S.L.length → j < (tAt S.L i).F.length → fldB S.L.length (vAt (tAt S.L i).F j) = true
namespace MS
theorem has_lt {S : MS} {i : Int} (h : S.has i = true) : 0 ≤ i ∧ i < S.L.length := by
  unfold has at h; rw [Bool.and_eq_true] at h; exact of_decide_eq_true h.1
theorem tAt_set (L : List PT) (i j : Nat) (x : PT) (hi : i < L.length) : tAt (L.set i x) j = if j = i then x else tAt L j := by
  unfold tAt
  rw [List.getD_eq_getElem?_getD, List.getD_eq_getElem?_getD, List.getElem?_set]
  by_cases h : j = i
  · subst h; rw [if_pos rfl, if_pos hi, if_pos rfl]; rfl
  · rw [if_neg (fun e => h e.symm), if_neg h]
theorem vAt_set (F : List PV) (i j : Nat) (x : PV) (hi : i < F.length) : vAt (F.set i x) j = if j = i then x else vAt F j := by
  unfold vAt
  rw [List.getD_eq_getElem?_getD, List.getD_eq_getElem?_getD, List.getElem?_set]
  by_cases h : j = i
  · subst h; rw [if_pos rfl, if_pos hi, if_pos rfl]; rfl
  · rw [if_neg (fun e => h e.symm), if_neg h]
theorem tAt_app (L : List PT) (x : PT) (j : Nat) : tAt (L ++ [x]) j = if j < L.length then tAt L j else if j = L.length then x else dT := by
  unfold tAt
  rw [List.getD_eq_getElem?_getD, List.getD_eq_getElem?_getD]
  by_cases h : j < L.length
  · rw [if_pos h, List.getElem?_append_left h]
  · rw [if_neg h, List.getElem?_append_right (by omega)]
    by_cases h2 : j = L.length
    · subst h2; simp
    · rw [if_neg h2, List.getElem?_eq_none (by simp; omega)]; rfl
theorem fldB_mono {n m : Nat} {v : PV} (h : fldB n v = true) (hm : n ≤ m) : fldB m v = true := by
  unfold fldB at *
  split at h
  · rename_i h1; rw [if_pos h1]; simp at h ⊢; omega
  · rename_i h1; rw [if_neg h1]; exact h
/-! ### a field turned -/
section
variable {S : MS} {i j : Int} {v : PV}
theorem field_lt (w : S.Wf) (h : S.isField i j = true) : 0 ≤ i ∧ i < S.L.length ∧ 0 ≤ j ∧ j < (S.t i).F.length ∧ S.has i = true ∧ (S.t i).fmt ≠ 3 := by
  unfold isField at h
  simp only [Bool.and_eq_true, Bool.not_eq_true', decide_eq_false_iff_not, decide_eq_true_eq] at h
  obtain ⟨h1, h2, h3, h4⟩ := h
  have hl := has_lt h1
  have hf : S.fmt i = (S.t i).fmt := by unfold fmt; rw [if_pos h1]
  rw [hf] at h2
  have hb := w.noB i.toNat (by omega) h2
  have hs : S.size i = ((S.t i).F.length : Int) + ((S.t i).B.size : Int) := by unfold size; rw [if_pos h1]
  rw [hs] at h4
  have : (S.t i).B.size = 0 := hb
  exact ⟨hl.1, hl.2, h3, by omega, h1, h2⟩
theorem put_len : (S.put i j v).L.length = S.L.length := by unfold put setT; simp
theorem has_put (k : Int) : (S.put i j v).has k = S.has k := by unfold has; rw [put_len]; rfl
theorem t_put (hi : 0 ≤ i ∧ i < S.L.length) (k : Int) : (S.put i j v).t k = if k.toNat = i.toNat then { S.t i with F := (S.t i).F.set j.toNat v } else S.t k := by
  show tAt (S.L.set i.toNat _) k.toNat = _
  rw [tAt_set _ _ _ _ (by omega)]; rfl
theorem t_put_fmt (hi : 0 ≤ i ∧ i < S.L.length) (k : Int) : ((S.put i j v).t k).fmt = (S.t k).fmt := by
  rw [t_put hi]; split
  · rename_i h; show (S.t i).fmt = _; unfold t; rw [h]
  · rfl
theorem t_put_cls (hi : 0 ≤ i ∧ i < S.L.length) (k : Int) : ((S.put i j v).t k).cls = (S.t k).cls := by
  rw [t_put hi]; split
  · rename_i h; show (S.t i).cls = _; unfold t; rw [h]
  · rfl
theorem t_put_hash (hi : 0 ≤ i ∧ i < S.L.length) (k : Int) : ((S.put i j v).t k).hash = (S.t k).hash := by
  rw [t_put hi]; split
  · rename_i h; show (S.t i).hash = _; unfold t; rw [h]
  · rfl
theorem t_put_B (hi : 0 ≤ i ∧ i < S.L.length) (k : Int) : ((S.put i j v).t k).B = (S.t k).B := by
  rw [t_put hi]; split
  · rename_i h; show (S.t i).B = _; unfold t; rw [h]
  · rfl
theorem t_put_Fl (hi : 0 ≤ i ∧ i < S.L.length) (k : Int) : ((S.put i j v).t k).F.length = (S.t k).F.length := by
  rw [t_put hi]; split
  · rename_i h; show ((S.t i).F.set _ _).length = _; rw [List.length_set]; unfold t; rw [h]
  · rfl
theorem fmt_put (hi : 0 ≤ i ∧ i < S.L.length) (k : Int) : (S.put i j v).fmt k = S.fmt k := by unfold fmt; rw [has_put, t_put_fmt hi]
theorem size_put (hi : 0 ≤ i ∧ i < S.L.length) (k : Int) : (S.put i j v).size k = S.size k := by unfold size; rw [has_put, t_put_Fl hi, t_put_B hi]
theorem cls_put (hi : 0 ≤ i ∧ i < S.L.length) (k : Int) : (S.put i j v).cls k = S.cls k := by unfold cls; rw [has_put, t_put_cls hi]
theorem hash_put (hi : 0 ≤ i ∧ i < S.L.length) (k : Int) : (S.put i j v).hash k = S.hash k := by unfold hash; rw [has_put, t_put_hash hi]
theorem may_put (x : PV) : (S.put i j v).may x = S.may x := by unfold may; rw [has_put]
theorem isField_put (hi : 0 ≤ i ∧ i < S.L.length) (k l : Int) : (S.put i j v).isField k l = S.isField k l := by unfold isField; rw [has_put, fmt_put hi, size_put hi]
theorem isByte_put (hi : 0 ≤ i ∧ i < S.L.length) (k l : Int) : (S.put i j v).isByte k l = S.isByte k l := by unfold isByte; rw [has_put, fmt_put hi, size_put hi]
theorem field_put (hi : 0 ≤ i ∧ i < S.L.length) (hj : 0 ≤ j ∧ j < (S.t i).F.length) (k l : Int) : (S.put i j v).field k l = if k.toNat = i.toNat ∧ l.toNat = j.toNat then v else S.field k l := by
  unfold field
  rw [t_put hi]
  by_cases h : k.toNat = i.toNat
  · rw [if_pos h]
    show vAt ((S.t i).F.set _ _) _ = _
    rw [vAt_set _ _ _ _ (by omega)]
    by_cases h2 : l.toNat = j.toNat
    · rw [if_pos h2, if_pos ⟨h, h2⟩]
    · rw [if_neg h2, if_neg (fun e => h2 e.2)]
      unfold t; rw [h]
  · rw [if_neg h, if_neg (fun e => h e.1)]
theorem put_wf (w : S.Wf) (h : S.isField i j = true) (hv : S.may v = true) : (S.put i j v).Wf := by
  obtain ⟨h1, h2, h3, h4, h5, h6⟩ := field_lt w h
  have hi : 0 ≤ i ∧ i < S.L.length := ⟨h1, h2⟩
  have T : ∀ k : Nat, tAt (S.put i j v).L k = (S.put i j v).t k := fun k => rfl
  have T0 : ∀ k : Nat, tAt S.L k = S.t k := fun k => rfl
  refine ⟨?_, ?_, ?_, ?_, w.last, fun k hk => ?_, fun k hk => ?_, fun k hk => ?_, fun k hk => ?_, fun k hk => ?_, fun k hk => ?_, fun k hk => ?_, fun k l hk hl => ?_⟩
  · rw [put_len]; exact w.dead
  · rw [put_len]; exact w.col
  · rw [put_len]; exact w.lo
  · rw [put_len]; exact w.len
  all_goals rw [put_len] at hk
  · rw [T, t_put_fmt hi]; exact w.fmt k hk
  · rw [T, t_put_fmt hi, t_put_B hi]; exact w.noB k hk
  · rw [T, t_put_fmt hi]
    intro hf
    have e : ((S.put i j v).t k).F.length = 0 := by
      rw [t_put_Fl hi]
      have := w.noF k hk hf
      rw [T0] at this; rw [this]; rfl
    exact List.eq_nil_of_length_eq_zero e
  · rw [T, t_put_Fl hi]; exact w.nF k hk
  · rw [T, t_put_B hi]; exact w.nB k hk
  · rw [T, t_put_cls hi, put_len]; exact w.cls k hk
  · rw [T, t_put_hash hi]; exact w.hash k hk
  · rw [put_len]
    rw [T, t_put_Fl hi] at hl
    have e : vAt (tAt (S.put i j v).L k).F l = (S.put i j v).field k l := rfl
    rw [e, field_put hi ⟨h3, h4⟩]
    split
    · unfold may at hv
      unfold fldB
      split at hv
      · rename_i ho; rw [if_pos ho]; have := has_lt hv; simp; omega
      · rename_i ho; rw [if_neg ho]; exact hv
    · exact w.fld k l hk hl
end
/-! ### a thing more -/
section
variable {S : MS} {x : PT}
theorem add_len : (S.add x).L.length = S.L.length + 1 := by unfold add; simp
theorem has_add (w : S.Wf) (k : Int) : (S.add x).has k = (S.has k || decide (k = S.L.length)) := by
  unfold has
  rw [add_len]
  show (_ && !((S.dead ++ [false]).getD k.toNat false)) = _
  rw [List.getD_eq_getElem?_getD, List.getD_eq_getElem?_getD]
  by_cases h : 0 ≤ k ∧ k < S.L.length
  · have hd := w.dead
    rw [List.getElem?_append_left (by omega)]
    have e1 : decide (0 ≤ k ∧ k < ((S.L.length + 1 : Nat) : Int)) = true := decide_eq_true (by omega)
    have e2 : decide (0 ≤ k ∧ k < (S.L.length : Int)) = true := decide_eq_true h
    have e3 : decide (k = (S.L.length : Int)) = false := decide_eq_false (by omega)
    rw [e1, e2, e3, Bool.or_false]
  · have e2 : decide (0 ≤ k ∧ k < (S.L.length : Int)) = false := decide_eq_false h
    rw [e2, Bool.false_and, Bool.false_or]
    by_cases h2 : k = S.L.length
    · subst h2
      have hd := w.dead
      rw [decide_eq_true rfl, List.getElem?_append_right (by omega), hd]
      simp
      omega
    · rw [decide_eq_false h2, decide_eq_false (by omega), Bool.false_and]
theorem t_old {k : Int} (h : k.toNat < S.L.length) : (S.add x).t k = S.t k := by
  show tAt (S.L ++ [x]) k.toNat = _
  rw [tAt_app, if_pos h]; rfl
theorem t_new : (S.add x).t S.L.length = x := by
  show tAt (S.L ++ [x]) _ = _
  rw [tAt_app, Int.toNat_natCast, if_neg (by omega), if_pos rfl]
theorem has_add_new (w : S.Wf) : (S.add x).has S.L.length = true := by rw [has_add w]; simp
theorem has_add_old (w : S.Wf) {k : Int} (h : S.has k = true) : (S.add x).has k = true := by rw [has_add w, h]; rfl
variable {k : Int}
theorem fmt_old (w : S.Wf) (h : S.has k = true) : (S.add x).fmt k = S.fmt k := by
  have := has_lt h
  unfold fmt; rw [has_add_old w h, h, t_old (by omega)]
theorem size_old (w : S.Wf) (h : S.has k = true) : (S.add x).size k = S.size k := by
  have := has_lt h
  unfold size; rw [has_add_old w h, h, t_old (by omega)]
theorem cls_old (w : S.Wf) (h : S.has k = true) : (S.add x).cls k = S.cls k := by
  have := has_lt h
  unfold cls; rw [has_add_old w h, h, t_old (by omega)]
theorem hash_old (w : S.Wf) (h : S.has k = true) : (S.add x).hash k = S.hash k := by
  have := has_lt h
  unfold hash; rw [has_add_old w h, h, t_old (by omega)]
theorem field_old (h : S.has k = true) (l : Int) : (S.add x).field k l = S.field k l := by
  have := has_lt h
  unfold field; rw [t_old (by omega)]
theorem isField_old (w : S.Wf) (h : S.has k = true) (l : Int) : (S.add x).isField k l = S.isField k l := by
  unfold isField; rw [has_add_old w h, h, fmt_old w h, size_old w h]
theorem get_old (w : S.Wf) (h : S.has k = true) (l : Int) : (S.add x).get k l = S.get k l := by
  unfold get; rw [isField_old w h, field_old h]
theorem isClass_old (w : S.Wf) (h : S.has k = true) : (S.add x).isClass k = S.isClass k := by
  unfold isClass; rw [has_add_old w h, h, fmt_old w h, size_old w h, field_old h, field_old h]
theorem may_old (w : S.Wf) {v : PV} (h : S.may v = true) : (S.add x).may v = true := by
  unfold may at *
  split at h
  · rename_i ho; rw [if_pos ho]; exact has_add_old w h
  · rename_i ho; rw [if_neg ho]; exact h
theorem add_wf (w : S.Wf) (hl : S.last < 3000) (h1 : x.fmt = 1 ∨ x.fmt = 2 ∨ x.fmt = 3) (h2 : x.fmt ≠ 3 → x.B.size = 0) (h3 : x.fmt = 3 → x.F = []) (h4 : x.F.length ≤ 60) (h5 : x.B.size ≤ 200) (h6 : 0 ≤ x.cls ∧ x.cls < S.L.length) (h7 : 1 ≤ x.hash ∧ x.hash ≤ 3000)
    (h8 : ∀ j, j < x.F.length → fldB S.L.length (vAt x.F j) = true) : (S.add x).Wf := by
  have T : ∀ k : Nat, k < S.L.length + 1 → (k < S.L.length ∧ tAt (S.add x).L k = tAt S.L k) ∨ (k = S.L.length ∧ tAt (S.add x).L k = x) := by
    intro k hk
    rcases Nat.lt_or_ge k S.L.length with h | h
    · exact .inl ⟨h, (t_old (k := (k : Int)) h)⟩
    · obtain rfl : k = S.L.length := by omega
      exact .inr ⟨rfl, t_new⟩
  refine ⟨?_, ?_, ?_, ?_, ?_, fun k hk => ?_, fun k hk => ?_, fun k hk => ?_, fun k hk => ?_, fun k hk => ?_, fun k hk => ?_, fun k hk => ?_, fun k l hk hl => ?_⟩
  · show (S.dead ++ [false]).length = _; rw [add_len, List.length_append, w.dead]; rfl
  · show (S.col ++ [0]).length = _; rw [add_len, List.length_append, w.col]; rfl
  · rw [add_len]; have := w.lo; omega
  · rw [add_len]; show _ ≤ S.last + 1; have := w.len; omega
  · show S.last + 1 ≤ 3000; omega
  all_goals rw [add_len] at hk
  all_goals rcases T k hk with ⟨hk2, e⟩ | ⟨hk2, e⟩
  all_goals rw [e]
  · exact w.fmt k hk2
  · exact h1
  · exact w.noB k hk2
  · exact h2
  · exact w.noF k hk2
  · exact h3
  · exact w.nF k hk2
  · exact h4
  · exact w.nB k hk2
  · exact h5
  · rw [add_len]; have := w.cls k hk2; omega
  · rw [add_len]; omega
  · exact w.hash k hk2
  · exact h7
  · rw [e] at hl
    rw [add_len]; exact fldB_mono (w.fld k l hk2 hl) (by omega)
  · rw [e] at hl
    rw [add_len]; exact fldB_mono (h8 l hl) (by omega)
end
end MS
end Go.Proofs.Ytadhkmplhgcgkaa.World
